/- GnA: part of the proof: a shadow of the machine that is proved sound, and what the functions of this seat compute. Conditions: none. -/
import Derived.Test.YtgcjkhmeideaoaaShB
import Derived.Test.YtgcjkhmeideaoaaProg
import Derived.Test.YtgcjkhmeideaoaaShC
import Derived.Shelf.Spec.SlicesGrow
set_option linter.unusedSimpArgs false
namespace Go.Sh.T
open Go Go.Sh Go.Proofs
set_option maxRecDepth 1000000
set_option linter.unusedVariables false
noncomputable def ti1 : TI := { size := 1, bytes := 8, desc := .func #[] #[] false, zero := [.v (.lit .nilFunc)] }
theorem tok1 : TyOk Try.prog 1 ti1 := .of (by kernel_rfl) (by kernel_rfl)
noncomputable def ti3 : TI := { size := 1, bytes := 8, desc := .int .i64, zero := [.v (.lit (.int .i64 0))] }
theorem tok3 : TyOk Try.prog 3 ti3 := .of (by kernel_rfl) (by kernel_rfl)
noncomputable def ti4 : TI := { size := 1, bytes := 1, desc := .bool, zero := [.v (.lit (.bool false))] }
theorem tok4 : TyOk Try.prog 4 ti4 := .of (by kernel_rfl) (by kernel_rfl)
noncomputable def ti5 : TI := { size := 1, bytes := 1, desc := .int .u8, zero := [.v (.lit (.int .u8 0))] }
theorem tok5 : TyOk Try.prog 5 ti5 := .of (by kernel_rfl) (by kernel_rfl)
noncomputable def ti9 : TI := { size := 1, bytes := 16, desc := .string, zero := [.v (.lit (.string ByteArray.empty))] }
theorem tok9 : TyOk Try.prog 9 ti9 := .of (by kernel_rfl) (by kernel_rfl)
noncomputable def ti20 : TI := { size := 1, bytes := 16, desc := .interface #[], zero := [.v (.lit .nilIface)] }
theorem tok20 : TyOk Try.prog 20 ti20 := .of (by kernel_rfl) (by kernel_rfl)
noncomputable def ti21 : TI := { size := 1, bytes := 4, desc := .int .i32, zero := [.v (.lit (.int .i32 0))] }
theorem tok21 : TyOk Try.prog 21 ti21 := .of (by kernel_rfl) (by kernel_rfl)
noncomputable def ti22 : TI := { size := 1, bytes := 24, desc := .slice 45, zero := [.nil 6] }
theorem tok22 : TyOk Try.prog 22 ti22 := .of (by kernel_rfl) (by kernel_rfl)
noncomputable def ti23 : TI := { size := 1, bytes := 24, desc := .slice 9, zero := [.nil 1] }
theorem tok23 : TyOk Try.prog 23 ti23 := .of (by kernel_rfl) (by kernel_rfl)
noncomputable def ti24 : TI := { size := 1, bytes := 24, desc := .slice 26, zero := [.nil 5] }
theorem tok24 : TyOk Try.prog 24 ti24 := .of (by kernel_rfl) (by kernel_rfl)
noncomputable def ti26 : TI := { size := 5, bytes := 80, desc := .struct #[⟨"K", 3, 0, false, "", "", 0⟩, ⟨"N", 3, 1, false, "", "", 8⟩, ⟨"Name", 9, 2, false, "", "", 16⟩, ⟨"Labels", 23, 3, false, "", "", 32⟩, ⟨"Args", 24, 4, false, "", "", 56⟩], zero := [.v (.lit (.int .i64 0)), .v (.lit (.int .i64 0)), .v (.lit (.string ByteArray.empty)), .nil 1, .nil 5] }
theorem tok26 : TyOk Try.prog 26 ti26 := .of (by kernel_rfl) (by kernel_rfl)
noncomputable def ti27 : TI := { size := 1, bytes := 24, desc := .slice 40, zero := [.nil 2] }
theorem tok27 : TyOk Try.prog 27 ti27 := .of (by kernel_rfl) (by kernel_rfl)
noncomputable def ti31 : TI := { size := 1, bytes := 8, desc := .int .i64, zero := [.v (.lit (.int .i64 0))] }
theorem tok31 : TyOk Try.prog 31 ti31 := .of (by kernel_rfl) (by kernel_rfl)
noncomputable def ti37 : TI := { size := 1, bytes := 8, desc := .func #[26] #[4] false, zero := [.v (.lit .nilFunc)] }
theorem tok37 : TyOk Try.prog 37 ti37 := .of (by kernel_rfl) (by kernel_rfl)
noncomputable def ti40 : TI := { size := 2, bytes := 48, desc := .struct #[⟨"Low", 24, 0, false, "", "", 0⟩, ⟨"Up", 24, 1, false, "", "", 24⟩], zero := [.nil 5, .nil 5] }
theorem tok40 : TyOk Try.prog 40 ti40 := .of (by kernel_rfl) (by kernel_rfl)
noncomputable def ti45 : TI := { size := 6, bytes := 96, desc := .struct #[⟨"Name", 9, 0, false, "", "", 0⟩, ⟨"Type", 26, 1, false, "", "", 16⟩], zero := [.v (.lit (.string ByteArray.empty)), .v (.lit (.int .i64 0)), .v (.lit (.int .i64 0)), .v (.lit (.string ByteArray.empty)), .nil 1, .nil 5] }
theorem tok45 : TyOk Try.prog 45 ti45 := .of (by kernel_rfl) (by kernel_rfl)
noncomputable def ti53 : TI := { size := 1, bytes := 8, desc := .pointer 55, zero := [.v (.lit (.pointer none))] }
theorem tok53 : TyOk Try.prog 53 ti53 := .of (by kernel_rfl) (by kernel_rfl)
noncomputable def ti55 : TI := { size := 2, bytes := 48, desc := .struct #[⟨"d", 22, 0, false, "", "limbeck/gen", 0⟩, ⟨"l", 27, 1, false, "", "limbeck/gen", 24⟩], zero := [.nil 6, .nil 2] }
theorem tok55 : TyOk Try.prog 55 ti55 := .of (by kernel_rfl) (by kernel_rfl)
noncomputable def ti57 : TI := { size := 1, bytes := 8, desc := .func #[26, 26] #[] false, zero := [.v (.lit .nilFunc)] }
theorem tok57 : TyOk Try.prog 57 ti57 := .of (by kernel_rfl) (by kernel_rfl)
noncomputable def ti58 : TI := { size := 1, bytes := 8, desc := .pointer 60, zero := [.v (.lit (.pointer none))] }
theorem tok58 : TyOk Try.prog 58 ti58 := .of (by kernel_rfl) (by kernel_rfl)
noncomputable def ti60 : TI := { size := 3, bytes := 56, desc := .struct #[⟨"D", 22, 0, false, "", "", 0⟩, ⟨"L", 27, 1, false, "", "", 24⟩, ⟨"Fail", 4, 2, false, "", "", 48⟩], zero := [.nil 6, .nil 2, .v (.lit (.bool false))] }
theorem tok60 : TyOk Try.prog 60 ti60 := .of (by kernel_rfl) (by kernel_rfl)
noncomputable def ti62 : TI := { size := 1, bytes := 24, desc := .slice 27, zero := [.nil 1] }
theorem tok62 : TyOk Try.prog 62 ti62 := .of (by kernel_rfl) (by kernel_rfl)
noncomputable def ti73 : TI := { size := 0, bytes := 0, desc := .struct #[], zero := [] }
theorem tok73 : TyOk Try.prog 73 ti73 := .of (by kernel_rfl) (by kernel_rfl)
noncomputable def ti81 : TI := { size := 1, bytes := 24, desc := .slice 24, zero := [.nil 1] }
theorem tok81 : TyOk Try.prog 81 ti81 := .of (by kernel_rfl) (by kernel_rfl)
noncomputable def ti92 : TI := { size := 1, bytes := 24, desc := .slice 94, zero := [.nil 6] }
theorem tok92 : TyOk Try.prog 92 ti92 := .of (by kernel_rfl) (by kernel_rfl)
noncomputable def ti94 : TI := { size := 6, bytes := 96, desc := .struct #[⟨"label", 9, 0, false, "", "limbeck/ty", 0⟩, ⟨"t", 26, 1, false, "", "limbeck/ty", 16⟩], zero := [.v (.lit (.string ByteArray.empty)), .v (.lit (.int .i64 0)), .v (.lit (.int .i64 0)), .v (.lit (.string ByteArray.empty)), .nil 1, .nil 5] }
theorem tok94 : TyOk Try.prog 94 ti94 := .of (by kernel_rfl) (by kernel_rfl)
noncomputable def ti96 : TI := { size := 1, bytes := 8, desc := .func #[94, 94] #[3] false, zero := [.v (.lit .nilFunc)] }
theorem tok96 : TyOk Try.prog 96 ti96 := .of (by kernel_rfl) (by kernel_rfl)
noncomputable def fs : List (Nat × Func) := [(83, Try.f83), (65, Try.f65), (17, Try.f17), (67, Try.f67), (61, Try.f61), (14, Try.f14), (15, Try.f15), (16, Try.f16), (20, Try.f20), (84, Try.f84), (66, Try.f66), (78, Try.f78), (35, Try.f35), (36, Try.f36), (32, Try.f32), (34, Try.f34), (21, Try.f21), (75, Try.f75), (33, Try.f33), (64, Try.f64), (63, Try.f63), (79, Try.f79), (80, Try.f80), (81, Try.f81), (82, Try.f82), (90, Try.f90), (91, Try.f91), (92, Try.f92), (51, Try.f51), (19, Try.f19), (54, Try.f54), (93, Try.f93), (86, Try.f86), (24, Try.f24), (74, Try.f74), (73, Try.f73), (72, Try.f72), (71, Try.f71), (39, Try.f39), (70, Try.f70), (43, Try.f43), (40, Try.f40), (41, Try.f41), (42, Try.f42), (44, Try.f44), (88, Try.f88), (87, Try.f87), (69, Try.f69), (68, Try.f68), (3, Try.f3), (4, Try.f4), (6, Try.f6), (7, Try.f7), (8, Try.f8), (9, Try.f9), (10, Try.f10), (11, Try.f11), (12, Try.f12), (13, Try.f13), (18, Try.f18), (22, Try.f22), (23, Try.f23), (26, Try.f26), (27, Try.f27), (28, Try.f28), (29, Try.f29), (31, Try.f31), (37, Try.f37), (38, Try.f38), (46, Try.f46), (47, Try.f47), (49, Try.f49), (52, Try.f52), (53, Try.f53), (55, Try.f55), (57, Try.f57), (58, Try.f58), (59, Try.f59), (60, Try.f60), (77, Try.f77), (5, Try.f5), (94, Try.f94), (89, Try.f89), (96, Try.f96), (95, Try.f95)]
noncomputable def gs : List (Nat × Func) := [(85, Try.f85), (25, Try.f25), (30, Try.f30), (48, Try.f48), (50, Try.f50), (56, Try.f56), (76, Try.f76), (45, Try.f45), (62, Try.f62)]
noncomputable def ts : List (Nat × TI) := [(1, ti1), (3, ti3), (4, ti4), (5, ti5), (9, ti9), (20, ti20), (21, ti21), (22, ti22), (23, ti23), (24, ti24), (26, ti26), (27, ti27), (31, ti31), (37, ti37), (40, ti40), (45, ti45), (53, ti53), (55, ti55), (57, ti57), (58, ti58), (60, ti60), (62, ti62), (73, ti73), (81, ti81), (92, ti92), (94, ti94), (96, ti96)]
noncomputable def hints : List (Nat × FHint) := [(83, { keep := [(0, [1, 3, 4])], base := [(6, 1), (13, 1)] }), (65, {}), (17, { keep := [(0, [0, 3])] }), (67, { base := [(7, 2), (11, 2), (20, 2), (26, 2)] }), (61, { keep := [(0, [2, 3, 5])], base := [(6, 2), (8, 3), (12, 2), (14, 3), (19, 2), (21, 3), (26, 2), (28, 3), (34, 2), (37, 3), (43, 2), (49, 3), (56, 2), (61, 3)] }), (14, { keep := [(0, [1, 3])], base := [(5, 1), (11, 1), (18, 1), (22, 1), (27, 1), (31, 1), (37, 1), (41, 1), (47, 1), (51, 1), (55, 1), (59, 1), (62, 1), (66, 1), (71, 1), (74, 1), (78, 1), (83, 1), (88, 1), (91, 1), (95, 1), (99, 1), (104, 1), (107, 1)] }), (15, { keep := [(0, [1, 2, 5])], base := [(6, 2), (11, 2), (17, 2)] }), (16, { keep := [(0, [0, 3, 4])] }), (20, { keep := [(0, [1, 3, 4]), (2, [1, 3, 5])], base := [(6, 1), (11, 1), (16, 1), (27, 1), (36, 1), (47, 1)] }), (84, {}), (66, { base := [(8, 3), (13, 3)] }), (78, { keep := [(0, [0, 1, 5])] }), (35, { tr := [11], keep := [(0, [0, 3, 4])] }), (36, {}), (32, {}), (34, { keep := [(0, [0, 1, 5])] }), (21, {}), (75, {}), (33, { keep := [(0, [0, 3])] }), (64, {}), (63, { keep := [(0, [0, 4, 5])] }), (79, { keep := [(0, [0, 3, 4]), (2, [0, 5, 6])] }), (80, {}), (81, {}), (82, {}), (90, {}), (91, {}), (92, {}), (51, { base := [(17, 6)] }), (19, {}), (54, { base := [(28, 9)] }), (93, { keep := [(0, [1, 4, 8, 9, 10])], base := [(14, 7), (18, 7)] }), (86, { base := [(8, 3), (14, 3)] }), (24, { base := [(7, 1), (11, 1), (19, 1), (25, 1), (30, 1), (36, 1), (41, 1), (46, 1), (52, 1), (58, 1), (61, 1), (66, 1)] }), (74, { tr := [25, 45, 52], keep := [(0, [1, 4, 6, 18, 19, 20]), (2, [4, 9, 38, 39, 40])], base := [(44, 9), (46, 11), (50, 9), (51, 9), (53, 11), (57, 9), (59, 9)] }), (73, { base := [(7, 2), (11, 2), (20, 2), (26, 2)] }), (72, {}), (71, {}), (39, { keep := [(0, [0, 4, 5, 9])], base := [(12, 5), (16, 4), (21, 5), (25, 4), (44, 4), (48, 5), (53, 5), (57, 4), (64, 4), (68, 5), (74, 4), (78, 5), (83, 5), (91, 5), (104, 5)] }), (70, {}), (43, {}), (40, { base := [(3, 1), (7, 1), (12, 1), (16, 1), (22, 1), (26, 1)] }), (41, {}), (42, {}), (44, { keep := [(0, [0, 5, 6, 7])] }), (88, {}), (87, { keep := [(0, [0, 1, 7, 8])] }), (69, {}), (68, { keep := [(0, [0, 1, 7, 8])] }), (3, {}), (4, { keep := [(0, [10, 12])] }), (6, { keep := [(0, [0, 1, 5])] }), (7, { keep := [(0, [0, 3]), (2, [0, 3, 4]), (4, [0, 3, 5])] }), (8, {}), (9, { hb := [6, 7, 10, 29, 31], hp := [6, 7, 10, 31, 35, 36, 37], res := true, lp := [35] }), (10, { hb := [29, 31], hp := [10, 31, 32, 36, 37, 38, 40, 41, 42], res := true }), (11, { keep := [(0, [0, 1, 5])] }), (12, { hb := [15], hp := [35, 36, 42, 43, 48, 49, 55, 56], pure := [41, 54], keep := [(0, [5, 18, 19, 20]), (2, [5, 18, 19, 20, 24, 25, 26])], base := [(38, 9), (51, 9)], ms := [35, 42, 48, 55], res := true }), (13, { tr := [27], keep := [(0, [0, 1, 5, 6])], base := [(29, 7), (32, 8), (36, 7), (39, 8)] }), (18, {}), (22, {}), (23, {}), (26, { hp := [0, 1, 2, 3], pans := [6], lp := [3] }), (27, { hp := [0, 14, 19, 22, 30, 32, 34, 42, 43, 44, 52, 62, 85, 86, 87, 97], pans := [51, 61, 71, 96, 104], keep := [(1, [0, 4, 5, 77, 78, 79])], base := [(27, 4), (38, 5), (53, 5), (57, 6), (63, 6), (67, 5), (73, 5), (76, 5), (99, 5)] }), (28, { hp := [0, 12, 13, 14, 17, 25, 32, 39, 40, 41, 49, 50, 51, 52, 62, 83, 84, 85, 99, 100, 101, 102], keep := [(0, [0, 4, 5, 8])], base := [(22, 5), (29, 4), (35, 5), (53, 5), (57, 6), (63, 6), (67, 5), (72, 5), (76, 5), (88, 5), (104, 5)] }), (29, { keep := [(0, [0, 1, 5])] }), (31, {}), (37, {}), (38, { tr := [44], keep := [(0, [1, 2, 3, 6, 7, 8])], base := [(9, 3), (13, 3), (19, 3), (28, 3), (35, 7), (37, 3), (43, 7), (45, 3), (55, 7)] }), (46, { hp := [0, 5, 11], base := [(9, 3)] }), (47, { hp := [0, 11, 12, 13], base := [(5, 3), (9, 3)] }), (49, { hp := [0, 11, 22, 30, 49], keep := [(1, [0, 2, 3, 43, 44, 45])], base := [(19, 5), (23, 5), (31, 5), (39, 5), (42, 5)] }), (52, {}), (53, { hp := [0, 11, 16, 19, 27, 29, 31, 46, 56, 90], pans := [45, 55, 65, 73, 89, 97], keep := [(1, [0, 4, 5, 75, 76, 77])], base := [(24, 5), (35, 5), (39, 4), (42, 5), (47, 5), (51, 4), (57, 4), (61, 5), (67, 4), (70, 5), (74, 5), (92, 5)] }), (55, { hp := [0, 12, 13, 14, 26], keep := [(0, [0, 3, 5])], base := [(6, 3), (10, 3), (20, 3), (27, 3)] }), (57, { hp := [0, 12, 13, 14, 21, 27, 28, 29, 33, 44], keep := [(0, [0, 2, 4, 6])], base := [(7, 4), (10, 4), (25, 4), (38, 4), (45, 4), (51, 4)] }), (58, { base := [(19, 6), (25, 6)] }), (59, { hp := [0, 9, 10, 11, 14, 22, 29, 40, 41, 42, 46, 56, 88, 89, 90, 91], keep := [(0, [0, 4, 5, 6])], base := [(19, 4), (26, 5), (32, 5), (35, 4), (37, 5), (43, 4), (47, 5), (51, 4), (57, 4), (61, 5), (66, 4), (70, 5), (78, 5), (93, 5)] }), (60, { base := [(30, 9)] }), (77, {}), (5, { tr := [56], keep := [(0, [0, 3, 5, 6, 9, 10]), (2, [0, 9, 13, 15]), (4, [0, 9, 13, 15, 16]), (6, [0, 9, 13, 15, 17])] }), (94, { keep := [(0, [0, 1, 2, 6, 7, 8]), (2, [0, 1, 2, 6]), (4, [0, 1, 2, 6, 7, 8])] }), (89, { base := [(5, 2), (7, 3)] }), (96, { keep := [(0, [0, 1, 2, 3, 8]), (2, [0, 1, 2, 3, 8, 9])] }), (95, {})]
noncomputable def E0 : Env := mkEnv Try.prog fs ts [] hints []
theorem allF : AllF Try.prog fs := ⟨Try.func83, Try.func65, Try.func17, Try.func67, Try.func61, Try.func14, Try.func15, Try.func16, Try.func20, Try.func84, Try.func66, Try.func78, Try.func35, Try.func36, Try.func32, Try.func34, Try.func21, Try.func75, Try.func33, Try.func64, Try.func63, Try.func79, Try.func80, Try.func81, Try.func82, Try.func90, Try.func91, Try.func92, Try.func51, Try.func19, Try.func54, Try.func93, Try.func86, Try.func24, Try.func74, Try.func73, Try.func72, Try.func71, Try.func39, Try.func70, Try.func43, Try.func40, Try.func41, Try.func42, Try.func44, Try.func88, Try.func87, Try.func69, Try.func68, Try.func3, Try.func4, Try.func6, Try.func7, Try.func8, Try.func9, Try.func10, Try.func11, Try.func12, Try.func13, Try.func18, Try.func22, Try.func23, Try.func26, Try.func27, Try.func28, Try.func29, Try.func31, Try.func37, Try.func38, Try.func46, Try.func47, Try.func49, Try.func52, Try.func53, Try.func55, Try.func57, Try.func58, Try.func59, Try.func60, Try.func77, Try.func5, Try.func94, Try.func89, Try.func96, Try.func95, trivial⟩
theorem allG : AllF Try.prog gs := ⟨Try.func85, Try.func25, Try.func30, Try.func48, Try.func50, Try.func56, Try.func76, Try.func45, Try.func62, trivial⟩
theorem allT : AllT Try.prog ts := ⟨tok1, tok3, tok4, tok5, tok9, tok20, tok21, tok22, tok23, tok24, tok26, tok27, tok31, tok37, tok40, tok45, tok53, tok55, tok57, tok58, tok60, tok62, tok73, tok81, tok92, tok94, tok96, trivial⟩
theorem okE0 : E0.Ok := mkEnv_ok (gs := []) allF trivial allT (by kernel_rfl) rfl rfl (by kernel_rfl) (by kernel_rfl)
end Go.Sh.T

namespace Go.Sh.T
open Go Go.Sh Go.Proofs
set_option maxRecDepth 100000
set_option linter.unusedVariables false


noncomputable def H48 : FHint := { tr := [16, 38], hp := [0, 8, 9, 10, 14, 15, 21, 22, 24, 25, 26, 30, 31, 32, 36, 37, 42, 43], base := [(12, 4), (28, 4), (34, 4)], ms := [14, 21, 36, 42] }
noncomputable def a48c0 : Code := match Try.f48.body with | some (.seq a _) => a | _ => .skip
noncomputable def a48o1 : Array Oper := match Try.f48.body with | some (.seq _ (.seq (.region _ ops _) _)) => ops | _ => #[]
noncomputable def a48o2 : Array Oper := match Try.f48.body with | some (.seq _ (.seq _ (.cond _ (.seq (.region _ ops _) _) _))) => ops | _ => #[]
noncomputable def a48o3 : Array Oper := match Try.f48.body with | some (.seq _ (.seq _ (.cond _ (.seq _ (.region _ ops _)) _))) => ops | _ => #[]
noncomputable def a48c4 : Code := match Try.f48.body with | some (.seq _ (.seq _ (.cond _ _ b))) => b | _ => .skip
noncomputable def a48oo (l : Array Oper) (i : Nat) : Oper := l.getD i default
theorem a48body : Try.f48.body = some (.seq a48c0 (.seq (.region 1 a48o1 true) (.cond (.tmp 7) (.seq (.region 2 a48o2 true) (.region 3 a48o3 false)) a48c4))) := by kernel_rfl
noncomputable def a48s0 (i : Nat) (N : Int) (p0 p2 p3 p4 s0 s1 s2 s3 s4 : AV) (h : Heap) : St := { s := lkS [(0, .c (.v (.hp i 0))), (1, .c (.v (.agg [p0, .lit (.int .i64 N), p2, p3, p4]))), (2, .c (.v (.agg [s0, s1, s2, s3, s4])))], h := h }
noncomputable def a48s1 (i : Nat) (N : Int) (p0 p2 p3 p4 s0 s1 s2 s3 s4 : AV) (h : Heap) : St := { s := fun t => (ups (a48s0 i N p0 p2 p3 p4 s0 s1 s2 s3 s4 h).s [(4, .loc [.v p0, .v (.lit (.int .i64 N)), .v p2, .v p3, .v p4]), (5, .loc [.v s0, .v s1, .v s2, .v s3, .v s4])] t).noPath, h := h }
noncomputable def a48s2 (i : Nat) (N : Int) (p0 p2 p3 p4 s0 s1 s2 s3 s4 : AV) (h : Heap) : St := { s := ups (a48s1 i N p0 p2 p3 p4 s0 s1 s2 s3 s4 h).s [(6, .loc [.v (.lit (.bool false))])], h := h, pb := fun _ => false }
noncomputable def a48s3 (i : Nat) (N : Int) (p0 p2 p3 p4 s0 s1 s2 s3 s4 : AV) (h : Heap) (b : Bool) : St := { s := ups (a48s2 i N p0 p2 p3 p4 s0 s1 s2 s3 s4 h).s [(6, .loc [.v (.lit (.bool b))])], h := h, pb := fun _ => false }
noncomputable def a48s4 (i : Nat) (N : Int) (p0 p2 p3 p4 s0 s1 s2 s3 s4 : AV) (h : Heap) (b c : Bool) : St := { s := ups (a48s3 i N p0 p2 p3 p4 s0 s1 s2 s3 s4 h b).s [(6, .loc [.v (.lit (.bool c))])], h := h, pb := fun _ => false }
noncomputable def a48s5 (i : Nat) (N : Int) (p0 p2 p3 p4 s0 s1 s2 s3 s4 : AV) (h : Heap) (b c : Bool) : St := { s := ups (a48s4 i N p0 p2 p3 p4 s0 s1 s2 s3 s4 h b c).s [(7, .c (.v (.lit (.bool c))))], h := h, pb := fun _ => false }
theorem a48k0 (i : Nat) (N : Int) (p0 p2 p3 p4 s0 s1 s2 s3 s4 : AV) (h : Heap) : evC E0 H48 44 noCall 0 a48c0 0 (a48s0 i N p0 p2 p3 p4 s0 s1 s2 s3 s4 h) kE kP = some (.inl (.normal, a48s1 i N p0 p2 p3 p4 s0 s1 s2 s3 s4 h)) := by kernel_rfl
theorem a48k1 (i : Nat) (N : Int) (p0 p2 p3 p4 s0 s1 s2 s3 s4 : AV) (h : Heap) : stepD E0 H48 44 noCall a48o1 0 (a48oo a48o1 0) (a48s1 i N p0 p2 p3 p4 s0 s1 s2 s3 s4 h) = some (.inl (a48s2 i N p0 p2 p3 p4 s0 s1 s2 s3 s4 h)) := by kernel_rfl
theorem a48k2 (i : Nat) (N : Int) (p0 p2 p3 p4 s0 s1 s2 s3 s4 : AV) (h : Heap) : stepD E0 H48 44 noCall a48o1 1 (a48oo a48o1 1) (a48s2 i N p0 p2 p3 p4 s0 s1 s2 s3 s4 h) = some (.inl (a48s3 i N p0 p2 p3 p4 s0 s1 s2 s3 s4 h true)) := by kernel_rfl
theorem a48k3 (i : Nat) (N : Int) (p0 p2 p3 p4 s0 s1 s2 s3 s4 : AV) (h : Heap) : stepD E0 H48 44 noCall a48o1 2 (a48oo a48o1 2) (a48s3 i N p0 p2 p3 p4 s0 s1 s2 s3 s4 h true) = some (.inl (a48s4 i N p0 p2 p3 p4 s0 s1 s2 s3 s4 h true false)) := by kernel_rfl
theorem a48k4 (i : Nat) (N : Int) (p0 p2 p3 p4 s0 s1 s2 s3 s4 : AV) (h : Heap) : stepD E0 H48 44 noCall a48o1 3 (a48oo a48o1 3) (a48s4 i N p0 p2 p3 p4 s0 s1 s2 s3 s4 h true false) = some (.inl (a48s5 i N p0 p2 p3 p4 s0 s1 s2 s3 s4 h true false)) := by kernel_rfl
theorem a48k2' (i : Nat) (N : Int) (p0 p2 p3 p4 s0 s1 s2 s3 s4 : AV) (h : Heap) : stepD E0 H48 44 noCall a48o1 2 (a48oo a48o1 2) (a48s2 i N p0 p2 p3 p4 s0 s1 s2 s3 s4 h) = some (.inl (a48s3 i N p0 p2 p3 p4 s0 s1 s2 s3 s4 h false)) := by kernel_rfl
theorem a48k3' (i : Nat) (N : Int) (p0 p2 p3 p4 s0 s1 s2 s3 s4 : AV) (h : Heap) : stepD E0 H48 44 noCall a48o1 1 (a48oo a48o1 1) (a48s3 i N p0 p2 p3 p4 s0 s1 s2 s3 s4 h false) = some (.inl (a48s4 i N p0 p2 p3 p4 s0 s1 s2 s3 s4 h false true)) := by kernel_rfl
theorem a48k4' (i : Nat) (N : Int) (p0 p2 p3 p4 s0 s1 s2 s3 s4 : AV) (h : Heap) : stepD E0 H48 44 noCall a48o1 3 (a48oo a48o1 3) (a48s4 i N p0 p2 p3 p4 s0 s1 s2 s3 s4 h false true) = some (.inl (a48s5 i N p0 p2 p3 p4 s0 s1 s2 s3 s4 h false true)) := by kernel_rfl

/-- The way of one order: all in one region. -/
noncomputable def a48K (h0 : Heap) : Ex → St → R := fun e st => match e with
  | .exit _ => none
  | _ => finish E0 H48 Try.f48 h0 st
theorem a48B (i : Nat) (N : Int) (p0 p2 p3 p4 s0 s1 s2 s3 s4 : AV) (h : Heap) (b : Bool) : evC E0 H48 44 noCall 0 a48c4 0 (a48s5 i N p0 p2 p3 p4 s0 s1 s2 s3 s4 h true false) (a48K h) (fun _ _ => none) = (hpart false 1 1 i h).bind fun v1 => (hpart false 1 1 i h).bind fun v2 => (indexH 2 v2 (.lit (.int .i64 N))).bind fun q =>
    (htake h q.1 (q.2 + 0)).bind fun t => cond (Nat.beq t.1.1 5 && Nat.ble (t.1.2.length + 1) maxApp) ((indexH 2 v1 (.lit (.int .i64 N))).bind fun q => (hstore t.2 q.1 (q.2 + 0) [.own 5 (t.1.2 ++ [[s0, s1, s2, s3, s4]])]).bind fun h2 => some (.ret (.tup []), h2)) none := by kernel_rfl

/-- The way of the other: the first twelve operations. -/
noncomputable def a48P (i : Nat) (N : Int) (p0 p2 p3 p4 s0 s1 s2 s3 s4 : AV) (h : Heap) (v : AV) (q : Nat × Nat) (t : (Nat × List (List AV)) × Heap) (n : Int) : St :=
  { s := ups (a48s5 i N p0 p2 p3 p4 s0 s1 s2 s3 s4 h false true).s [(8, .c (.v (.hp i 0))), (9, .c (.v (.hp i 0))), (10, .c (.v (.hp i 1))), (11, .c (.v v)), (12, .path 4 1), (13, .c (.v (.lit (.int .i64 N)))), (14, .c (.v (.hp q.1 q.2))), (15, .c (.v (.hp q.1 (q.2 + 0)))),
      (16, .c (.own t.1.1 t.1.2)), (17, .c (.v (.agg [s0, s1, s2, s3, s4]))), (18, .c (.v (.lit (.int .i64 n)))), (19, .c (.own 5 [[.lit (.int .i64 0), .lit (.int .i64 0), .lit (.string ⟨#[]⟩), .lit (.slice none 0 0), .lit (.slice none 0 0)]]))], h := t.2, pb := addPb (fun _ => false) [(12, .path 4 1)] }
theorem a48A (i : Nat) (N : Int) (p0 p2 p3 p4 s0 s1 s2 s3 s4 : AV) (h : Heap) : opsD E0 H48 44 noCall a48o2 (ancs a48o2.toList []) ((indexed a48o2).take 12) (a48s5 i N p0 p2 p3 p4 s0 s1 s2 s3 s4 h false true) (fun st => some st) (fun _ _ => none) = (hpart false 1 1 i h).bind fun v => (indexH 2 v (.lit (.int .i64 N))).bind fun q =>
    (htake h q.1 (q.2 + 0)).bind fun t => (lenA E0 24 (.sl t.1.1 t.1.2)).bind fun n => some (a48P i N p0 p2 p3 p4 s0 s1 s2 s3 s4 h v q t n) := by kernel_rfl
theorem a48d : drawOk H48 a48o2 (ancs a48o2.toList []) ((indexed a48o2).take 12) = true := by kernel_rfl

/-- (*asker).low and its like: one need gets a type more. -/
theorem push48 {i j off len : Nat} {N : Int} (p0 p2 p3 p4 s0 s1 s2 s3 s4 : AV) {es : List (List AV)} {h : Heap} {cs cells : List Cell} (hi : h[i]? = some cs) (hc : cs[1]? = some (.v (.hs 2 j off len))) (hN0 : 0 ≤ N) (hN : N.toNat < len)
    (hj : h[j]? = some cells) (hcell : cells[off + N.toNat * 2 + 0]? = some (.own 5 es)) (hm : es.length + 1 ≤ maxApp) : Ends Try.prog 48 [.hp i 0, .agg [p0, .lit (.int .i64 N), p2, p3, p4], .agg [s0, s1, s2, s3, s4]] h (.ret (.tup [])) (h.set j (cells.set (off + N.toNat * 2 + 0) (.own 5 (es ++ [[s0, s1, s2, s3, s4]])))) := by
  refine ⟨⟨Try.f48, Try.func48, by kernel_rfl, rfl⟩, fun d G w argv hr hh hw => ?_⟩
  refine calls_of_wp Try.func48 a48body ?_
  refine (wpIn_wide (n := 0)).1 ?_
  have hal : argv.size = 3 := by have := hr.length; simpa using this.symm
  have hat : AtSt d 44 G w (a48s0 i N p0 p2 p3 p4 s0 s1 s2 s3 s4 h) { tmps := argv ++ Array.replicate (Try.f48.ntmps - argv.size) undef, defers := [] } w := by
    refine ⟨G, ⟨fun k => ?_, fun u t off hu => ?_, hh, hw⟩, by simp [hal, Try.f48], Fr.refl d G w⟩
    · rcases lkS_spec [(0, .c (.v (.hp i 0))), (1, .c (.v (.agg [p0, .lit (.int .i64 N), p2, p3, p4]))), (2, .c (.v (.agg [s0, s1, s2, s3, s4])))] k with e | e
      · show RepSlot _ _ _ _ (lkS _ _) _
        rw [e]; trivial
      · refine argSlots_spec [.hp i 0, .agg [p0, .lit (.int .i64 N), p2, p3, p4], .agg [s0, s1, s2, s3, s4]] 0 argv.toList hr (fun m x hm => ?_) _ e
        have hj' : m < argv.size := by simpa using (List.getElem?_eq_some_iff.1 hm).1
        rw [Nat.zero_add, Array.getD_eq_getD_getElem?, Array.getElem?_append_left hj', ← Array.getElem?_toList, hm]; rfl
    · exfalso
      have hu : lkS [(0, .c (.v (.hp i 0))), (1, .c (.v (.agg [p0, .lit (.int .i64 N), p2, p3, p4]))), (2, .c (.v (.agg [s0, s1, s2, s3, s4])))] u = .path t off := hu
      rcases lkS_spec [(0, .c (.v (.hp i 0))), (1, .c (.v (.agg [p0, .lit (.int .i64 N), p2, p3, p4]))), (2, .c (.v (.agg [s0, s1, s2, s3, s4])))] u with e | e
      · rw [e] at hu; cases hu
      · rw [hu] at e; simp at e
  have ho : off + N.toNat * 2 + 0 < cells.length := (List.getElem?_eq_some_iff.1 hcell).1
  have e1 : hpart false 1 1 i h = some (.hs 2 j off len) := hpart_cell hi hc
  have e2 : indexH 2 (.hs 2 j off len) (.lit (.int .i64 N)) = some (j, off + N.toNat * 2) := indexH_at hN0 hN
  have e3 : htake h j (off + N.toNat * 2 + 0) = some ((5, es), h.set j (cells.set (off + N.toNat * 2 + 0) (.v (.sl 5 es)))) := htake_at hj hcell
  have e4 : hstore (h.set j (cells.set (off + N.toNat * 2 + 0) (.v (.sl 5 es)))) j (off + N.toNat * 2 + 0) [.own 5 (es ++ [[s0, s1, s2, s3, s4]])] = some (h.set j (cells.set (off + N.toNat * 2 + 0) (.own 5 (es ++ [[s0, s1, s2, s3, s4]])))) := hstore_at hj ho
  have hres : ∀ (tm : Array Value) w', (results Try.f48 tm).run Try.prog w' = .ok (.tuple #[]) w' := fun tm w' => by simp [results, Try.f48]
  refine wpIn_seq (seg_ok okE0 (a48k0 i N p0 p2 p3 p4 s0 s1 s2 s3 s4 h) hat rfl fun a1 w1 hat1 hd1 => ?_)
  refine wpIn_seq (region_choice okE0 (o0 := a48oo a48o1 0) (o1 := a48oo a48o1 1) (o2 := a48oo a48o1 2) (o3 := a48oo a48o1 3) (by kernel_rfl) (by kernel_rfl) (by kernel_rfl) (by kernel_rfl) (by kernel_rfl) (by kernel_rfl) (by kernel_rfl) (by kernel_rfl) (by kernel_rfl) (by kernel_rfl) (by kernel_rfl)
    (a48k1 i N p0 p2 p3 p4 s0 s1 s2 s3 s4 h) (a48k2 i N p0 p2 p3 p4 s0 s1 s2 s3 s4 h) (a48k3 i N p0 p2 p3 p4 s0 s1 s2 s3 s4 h) (a48k4 i N p0 p2 p3 p4 s0 s1 s2 s3 s4 h) (a48k2' i N p0 p2 p3 p4 s0 s1 s2 s3 s4 h) (a48k3' i N p0 p2 p3 p4 s0 s1 s2 s3 s4 h) (a48k4' i N p0 p2 p3 p4 s0 s1 s2 s3 s4 h) hat1 hd1 (fun a2 w2 hat2 hd2 => ?_) (fun a2 w2 hat2 hd2 => ?_))
  · -- all in one region
    have h7 : a2.eval (.tmp 7) = .bool false := by
      obtain ⟨G2, r2, _⟩ := hat2
      have := r2.slot 7
      rw [show (a48s5 i N p0 p2 p3 p4 s0 s1 s2 s3 s4 h true false).s 7 = .c (.v (.lit (.bool false))) from by kernel_rfl] at this
      exact RepA.litE this
    refine wpIn_cond_false h7 ?_
    have hB := a48B i N p0 p2 p3 p4 s0 s1 s2 s3 s4 h true
    rw [e1, Option.bind_some, Option.bind_some, e2, Option.bind_some] at hB
    dsimp only at hB
    rw [e3, Option.bind_some] at hB
    dsimp only at hB
    rw [show (Nat.beq 5 5 && Nat.ble (es.length + 1) maxApp) = true from by rw [Bool.and_eq_true, Nat.ble_eq]; exact ⟨rfl, hm⟩, cond_true, Option.bind_some, e4, Option.bind_some] at hB
    refine Code.wpIn_mono (fun e a' w' hq => ?_) (evC_ok (ro := none) (nn := 0) okE0 (noCall_ok _) _ 0 _ _ a2 w2 hB hat2 hd2)
    obtain ⟨hd', hq⟩ := hq
    have key : ∀ {st' : St} {G' : Gh}, finish E0 H48 Try.f48 h st' = some (.ret (.tup []), h.set j (cells.set (off + N.toNat * 2 + 0) (.own 5 (es ++ [[s0, s1, s2, s3, s4]])))) → RepSt d G' w' st' a'.tmps → Fr d G w G' w' → a'.defers = [] ∧ ∃ v, (results Try.f48 a'.tmps).run Try.prog w' = .ok v w' ∧ EndOk d G w (.ret (.tup [])) (h.set j (cells.set (off + N.toNat * 2 + 0) (.own 5 (es ++ [[s0, s1, s2, s3, s4]])))) (.returned v) w' := by
      intro st' G' h1 h2 h3
      obtain ⟨v, k1, ⟨G2, k2, k3, k4, k5⟩, k6⟩ := finish_ok okE0 hh h2 h3 h1
      exact ⟨hd', v, k1, G2, k2, k3, k4, k5⟩
    cases e with
    | normal => obtain ⟨st', G', h1, h2, h3, h4⟩ := hq; exact key h1 h2 h4
    | ret => obtain ⟨st', G', h1, h2, h3, h4⟩ := hq; exact key h1 h2 h4
    | exit i => obtain ⟨st', G', h1, _⟩ := hq; cases h1
    | panic ch => obtain ⟨x, v, G', h', _, h1, _⟩ := hq; cases h1
    | goto l => exact hq.elim
    | outgrown => exact hq.elim
  · -- the element laid behind
    have h7 : a2.eval (.tmp 7) = .bool true := by
      obtain ⟨G2, r2, _⟩ := hat2
      have := r2.slot 7
      rw [show (a48s5 i N p0 p2 p3 p4 s0 s1 s2 s3 s4 h false true).s 7 = .c (.v (.lit (.bool true))) from by kernel_rfl] at this
      exact RepA.litE this
    refine wpIn_cond_true h7 ?_
    have hA := a48A i N p0 p2 p3 p4 s0 s1 s2 s3 s4 h
    have e5 : lenA E0 24 (.sl 5 es) = some (es.length : Int) := by kernel_rfl
    rw [e1, Option.bind_some, e2, Option.bind_some] at hA
    dsimp only at hA
    rw [e3, Option.bind_some, e5, Option.bind_some] at hA
    refine wpIn_seq (draw_pre okE0 (noCall_ok _) 12 4 (by kernel_rfl) (behind_of (by kernel_rfl)) (fun st3 a3 G3 w3 hst r3 hnt3 hd3 hf3 => ?_) a48d hA hat2 hd2)
    have hst := Option.some.inj hst
    subst hst
    exact append_other (id := 3) (ops3 := a48o3) okE0 (o12 := a48oo a48o2 12) (o13 := a48oo a48o2 13) (o14 := a48oo a48o2 14) (o15 := a48oo a48o2 15) (q0 := a48oo a48o3 0) (q1 := a48oo a48o3 1) (TL := 27) (TN := 40) (TT := 24) (TE := 26) (fld := 0) (nL := 2) (n := 5) (fo := (0, ti24)) (iE := ti26) (iT := ti24)
      (by kernel_rfl) (by kernel_rfl) (by kernel_rfl) (by kernel_rfl) (by kernel_rfl) (by kernel_rfl) (by kernel_rfl) (by kernel_rfl) (by kernel_rfl) (by kernel_rfl) (by kernel_rfl) (by kernel_rfl) (by kernel_rfl) (by kernel_rfl) (by kernel_rfl) (by kernel_rfl)
      (by kernel_rfl) (by kernel_rfl) (by kernel_rfl) (by kernel_rfl) (by kernel_rfl) (by kernel_rfl) (by kernel_rfl) (by kernel_rfl) (by kernel_rfl)
      (by kernel_rfl) (by kernel_rfl) (by kernel_rfl) (by kernel_rfl) (by kernel_rfl)
      (by kernel_rfl) (by kernel_rfl) (by kernel_rfl) (by kernel_rfl) (by kernel_rfl) (by kernel_rfl) (by kernel_rfl) (by kernel_rfl) (by decide) (by kernel_rfl)
      hnt3 (by decide) r3 (j := j) (off := off) (len := len) (N := N) (es := es) (s := [s0, s1, s2, s3, s4]) (ph := [.lit (.int .i64 0), .lit (.int .i64 0), .lit (.string ⟨#[]⟩), .lit (.slice none 0 0), .lit (.slice none 0 0)]) (by kernel_rfl) (by kernel_rfl) hN0 hN (by kernel_rfl) (by kernel_rfl) rfl (by kernel_rfl) (by kernel_rfl) (by kernel_rfl) e4 hm (fun _ _ h => h)
      (fun a' w' G' k1 k2 k3 k4 => ⟨k4.trans hd3, _, hres _ _, G', hf3.trans k3, k1, k2, .tup .nil⟩)
end Go.Sh.T

namespace Go.Sh.T
open Go Go.Sh Go.Proofs
set_option maxRecDepth 100000
set_option linter.unusedVariables false


noncomputable def H50 : FHint := { tr := [16, 38], hp := [0, 8, 9, 10, 14, 15, 21, 22, 24, 25, 26, 30, 31, 32, 36, 37, 42, 43], base := [(12, 4), (28, 4), (34, 4)], ms := [14, 21, 36, 42] }
noncomputable def a50c0 : Code := match Try.f50.body with | some (.seq a _) => a | _ => .skip
noncomputable def a50o1 : Array Oper := match Try.f50.body with | some (.seq _ (.seq (.region _ ops _) _)) => ops | _ => #[]
noncomputable def a50o2 : Array Oper := match Try.f50.body with | some (.seq _ (.seq _ (.cond _ (.seq (.region _ ops _) _) _))) => ops | _ => #[]
noncomputable def a50o3 : Array Oper := match Try.f50.body with | some (.seq _ (.seq _ (.cond _ (.seq _ (.region _ ops _)) _))) => ops | _ => #[]
noncomputable def a50c4 : Code := match Try.f50.body with | some (.seq _ (.seq _ (.cond _ _ b))) => b | _ => .skip
noncomputable def a50oo (l : Array Oper) (i : Nat) : Oper := l.getD i default
theorem a50body : Try.f50.body = some (.seq a50c0 (.seq (.region 1 a50o1 true) (.cond (.tmp 7) (.seq (.region 2 a50o2 true) (.region 3 a50o3 false)) a50c4))) := by kernel_rfl
noncomputable def a50s0 (i : Nat) (N : Int) (p0 p2 p3 p4 s0 s1 s2 s3 s4 : AV) (h : Heap) : St := { s := lkS [(0, .c (.v (.hp i 0))), (1, .c (.v (.agg [p0, .lit (.int .i64 N), p2, p3, p4]))), (2, .c (.v (.agg [s0, s1, s2, s3, s4])))], h := h }
noncomputable def a50s1 (i : Nat) (N : Int) (p0 p2 p3 p4 s0 s1 s2 s3 s4 : AV) (h : Heap) : St := { s := fun t => (ups (a50s0 i N p0 p2 p3 p4 s0 s1 s2 s3 s4 h).s [(4, .loc [.v p0, .v (.lit (.int .i64 N)), .v p2, .v p3, .v p4]), (5, .loc [.v s0, .v s1, .v s2, .v s3, .v s4])] t).noPath, h := h }
noncomputable def a50s2 (i : Nat) (N : Int) (p0 p2 p3 p4 s0 s1 s2 s3 s4 : AV) (h : Heap) : St := { s := ups (a50s1 i N p0 p2 p3 p4 s0 s1 s2 s3 s4 h).s [(6, .loc [.v (.lit (.bool false))])], h := h, pb := fun _ => false }
noncomputable def a50s3 (i : Nat) (N : Int) (p0 p2 p3 p4 s0 s1 s2 s3 s4 : AV) (h : Heap) (b : Bool) : St := { s := ups (a50s2 i N p0 p2 p3 p4 s0 s1 s2 s3 s4 h).s [(6, .loc [.v (.lit (.bool b))])], h := h, pb := fun _ => false }
noncomputable def a50s4 (i : Nat) (N : Int) (p0 p2 p3 p4 s0 s1 s2 s3 s4 : AV) (h : Heap) (b c : Bool) : St := { s := ups (a50s3 i N p0 p2 p3 p4 s0 s1 s2 s3 s4 h b).s [(6, .loc [.v (.lit (.bool c))])], h := h, pb := fun _ => false }
noncomputable def a50s5 (i : Nat) (N : Int) (p0 p2 p3 p4 s0 s1 s2 s3 s4 : AV) (h : Heap) (b c : Bool) : St := { s := ups (a50s4 i N p0 p2 p3 p4 s0 s1 s2 s3 s4 h b c).s [(7, .c (.v (.lit (.bool c))))], h := h, pb := fun _ => false }
theorem a50k0 (i : Nat) (N : Int) (p0 p2 p3 p4 s0 s1 s2 s3 s4 : AV) (h : Heap) : evC E0 H50 44 noCall 0 a50c0 0 (a50s0 i N p0 p2 p3 p4 s0 s1 s2 s3 s4 h) kE kP = some (.inl (.normal, a50s1 i N p0 p2 p3 p4 s0 s1 s2 s3 s4 h)) := by kernel_rfl
theorem a50k1 (i : Nat) (N : Int) (p0 p2 p3 p4 s0 s1 s2 s3 s4 : AV) (h : Heap) : stepD E0 H50 44 noCall a50o1 0 (a50oo a50o1 0) (a50s1 i N p0 p2 p3 p4 s0 s1 s2 s3 s4 h) = some (.inl (a50s2 i N p0 p2 p3 p4 s0 s1 s2 s3 s4 h)) := by kernel_rfl
theorem a50k2 (i : Nat) (N : Int) (p0 p2 p3 p4 s0 s1 s2 s3 s4 : AV) (h : Heap) : stepD E0 H50 44 noCall a50o1 1 (a50oo a50o1 1) (a50s2 i N p0 p2 p3 p4 s0 s1 s2 s3 s4 h) = some (.inl (a50s3 i N p0 p2 p3 p4 s0 s1 s2 s3 s4 h true)) := by kernel_rfl
theorem a50k3 (i : Nat) (N : Int) (p0 p2 p3 p4 s0 s1 s2 s3 s4 : AV) (h : Heap) : stepD E0 H50 44 noCall a50o1 2 (a50oo a50o1 2) (a50s3 i N p0 p2 p3 p4 s0 s1 s2 s3 s4 h true) = some (.inl (a50s4 i N p0 p2 p3 p4 s0 s1 s2 s3 s4 h true false)) := by kernel_rfl
theorem a50k4 (i : Nat) (N : Int) (p0 p2 p3 p4 s0 s1 s2 s3 s4 : AV) (h : Heap) : stepD E0 H50 44 noCall a50o1 3 (a50oo a50o1 3) (a50s4 i N p0 p2 p3 p4 s0 s1 s2 s3 s4 h true false) = some (.inl (a50s5 i N p0 p2 p3 p4 s0 s1 s2 s3 s4 h true false)) := by kernel_rfl
theorem a50k2' (i : Nat) (N : Int) (p0 p2 p3 p4 s0 s1 s2 s3 s4 : AV) (h : Heap) : stepD E0 H50 44 noCall a50o1 2 (a50oo a50o1 2) (a50s2 i N p0 p2 p3 p4 s0 s1 s2 s3 s4 h) = some (.inl (a50s3 i N p0 p2 p3 p4 s0 s1 s2 s3 s4 h false)) := by kernel_rfl
theorem a50k3' (i : Nat) (N : Int) (p0 p2 p3 p4 s0 s1 s2 s3 s4 : AV) (h : Heap) : stepD E0 H50 44 noCall a50o1 1 (a50oo a50o1 1) (a50s3 i N p0 p2 p3 p4 s0 s1 s2 s3 s4 h false) = some (.inl (a50s4 i N p0 p2 p3 p4 s0 s1 s2 s3 s4 h false true)) := by kernel_rfl
theorem a50k4' (i : Nat) (N : Int) (p0 p2 p3 p4 s0 s1 s2 s3 s4 : AV) (h : Heap) : stepD E0 H50 44 noCall a50o1 3 (a50oo a50o1 3) (a50s4 i N p0 p2 p3 p4 s0 s1 s2 s3 s4 h false true) = some (.inl (a50s5 i N p0 p2 p3 p4 s0 s1 s2 s3 s4 h false true)) := by kernel_rfl

/-- The way of one order: all in one region. -/
noncomputable def a50K (h0 : Heap) : Ex → St → R := fun e st => match e with
  | .exit _ => none
  | _ => finish E0 H50 Try.f50 h0 st
theorem a50B (i : Nat) (N : Int) (p0 p2 p3 p4 s0 s1 s2 s3 s4 : AV) (h : Heap) (b : Bool) : evC E0 H50 44 noCall 0 a50c4 0 (a50s5 i N p0 p2 p3 p4 s0 s1 s2 s3 s4 h true false) (a50K h) (fun _ _ => none) = (hpart false 1 1 i h).bind fun v1 => (hpart false 1 1 i h).bind fun v2 => (indexH 2 v2 (.lit (.int .i64 N))).bind fun q =>
    (htake h q.1 (q.2 + 1)).bind fun t => cond (Nat.beq t.1.1 5 && Nat.ble (t.1.2.length + 1) maxApp) ((indexH 2 v1 (.lit (.int .i64 N))).bind fun q => (hstore t.2 q.1 (q.2 + 1) [.own 5 (t.1.2 ++ [[s0, s1, s2, s3, s4]])]).bind fun h2 => some (.ret (.tup []), h2)) none := by kernel_rfl

/-- The way of the other: the first twelve operations. -/
noncomputable def a50P (i : Nat) (N : Int) (p0 p2 p3 p4 s0 s1 s2 s3 s4 : AV) (h : Heap) (v : AV) (q : Nat × Nat) (t : (Nat × List (List AV)) × Heap) (n : Int) : St :=
  { s := ups (a50s5 i N p0 p2 p3 p4 s0 s1 s2 s3 s4 h false true).s [(8, .c (.v (.hp i 0))), (9, .c (.v (.hp i 0))), (10, .c (.v (.hp i 1))), (11, .c (.v v)), (12, .path 4 1), (13, .c (.v (.lit (.int .i64 N)))), (14, .c (.v (.hp q.1 q.2))), (15, .c (.v (.hp q.1 (q.2 + 1)))),
      (16, .c (.own t.1.1 t.1.2)), (17, .c (.v (.agg [s0, s1, s2, s3, s4]))), (18, .c (.v (.lit (.int .i64 n)))), (19, .c (.own 5 [[.lit (.int .i64 0), .lit (.int .i64 0), .lit (.string ⟨#[]⟩), .lit (.slice none 0 0), .lit (.slice none 0 0)]]))], h := t.2, pb := addPb (fun _ => false) [(12, .path 4 1)] }
theorem a50A (i : Nat) (N : Int) (p0 p2 p3 p4 s0 s1 s2 s3 s4 : AV) (h : Heap) : opsD E0 H50 44 noCall a50o2 (ancs a50o2.toList []) ((indexed a50o2).take 12) (a50s5 i N p0 p2 p3 p4 s0 s1 s2 s3 s4 h false true) (fun st => some st) (fun _ _ => none) = (hpart false 1 1 i h).bind fun v => (indexH 2 v (.lit (.int .i64 N))).bind fun q =>
    (htake h q.1 (q.2 + 1)).bind fun t => (lenA E0 24 (.sl t.1.1 t.1.2)).bind fun n => some (a50P i N p0 p2 p3 p4 s0 s1 s2 s3 s4 h v q t n) := by kernel_rfl
theorem a50d : drawOk H50 a50o2 (ancs a50o2.toList []) ((indexed a50o2).take 12) = true := by kernel_rfl

/-- (*asker).low and its like: one need gets a type more. -/
theorem push50 {i j off len : Nat} {N : Int} (p0 p2 p3 p4 s0 s1 s2 s3 s4 : AV) {es : List (List AV)} {h : Heap} {cs cells : List Cell} (hi : h[i]? = some cs) (hc : cs[1]? = some (.v (.hs 2 j off len))) (hN0 : 0 ≤ N) (hN : N.toNat < len)
    (hj : h[j]? = some cells) (hcell : cells[off + N.toNat * 2 + 1]? = some (.own 5 es)) (hm : es.length + 1 ≤ maxApp) : Ends Try.prog 50 [.hp i 0, .agg [p0, .lit (.int .i64 N), p2, p3, p4], .agg [s0, s1, s2, s3, s4]] h (.ret (.tup [])) (h.set j (cells.set (off + N.toNat * 2 + 1) (.own 5 (es ++ [[s0, s1, s2, s3, s4]])))) := by
  refine ⟨⟨Try.f50, Try.func50, by kernel_rfl, rfl⟩, fun d G w argv hr hh hw => ?_⟩
  refine calls_of_wp Try.func50 a50body ?_
  refine (wpIn_wide (n := 0)).1 ?_
  have hal : argv.size = 3 := by have := hr.length; simpa using this.symm
  have hat : AtSt d 44 G w (a50s0 i N p0 p2 p3 p4 s0 s1 s2 s3 s4 h) { tmps := argv ++ Array.replicate (Try.f50.ntmps - argv.size) undef, defers := [] } w := by
    refine ⟨G, ⟨fun k => ?_, fun u t off hu => ?_, hh, hw⟩, by simp [hal, Try.f50], Fr.refl d G w⟩
    · rcases lkS_spec [(0, .c (.v (.hp i 0))), (1, .c (.v (.agg [p0, .lit (.int .i64 N), p2, p3, p4]))), (2, .c (.v (.agg [s0, s1, s2, s3, s4])))] k with e | e
      · show RepSlot _ _ _ _ (lkS _ _) _
        rw [e]; trivial
      · refine argSlots_spec [.hp i 0, .agg [p0, .lit (.int .i64 N), p2, p3, p4], .agg [s0, s1, s2, s3, s4]] 0 argv.toList hr (fun m x hm => ?_) _ e
        have hj' : m < argv.size := by simpa using (List.getElem?_eq_some_iff.1 hm).1
        rw [Nat.zero_add, Array.getD_eq_getD_getElem?, Array.getElem?_append_left hj', ← Array.getElem?_toList, hm]; rfl
    · exfalso
      have hu : lkS [(0, .c (.v (.hp i 0))), (1, .c (.v (.agg [p0, .lit (.int .i64 N), p2, p3, p4]))), (2, .c (.v (.agg [s0, s1, s2, s3, s4])))] u = .path t off := hu
      rcases lkS_spec [(0, .c (.v (.hp i 0))), (1, .c (.v (.agg [p0, .lit (.int .i64 N), p2, p3, p4]))), (2, .c (.v (.agg [s0, s1, s2, s3, s4])))] u with e | e
      · rw [e] at hu; cases hu
      · rw [hu] at e; simp at e
  have ho : off + N.toNat * 2 + 1 < cells.length := (List.getElem?_eq_some_iff.1 hcell).1
  have e1 : hpart false 1 1 i h = some (.hs 2 j off len) := hpart_cell hi hc
  have e2 : indexH 2 (.hs 2 j off len) (.lit (.int .i64 N)) = some (j, off + N.toNat * 2) := indexH_at hN0 hN
  have e3 : htake h j (off + N.toNat * 2 + 1) = some ((5, es), h.set j (cells.set (off + N.toNat * 2 + 1) (.v (.sl 5 es)))) := htake_at hj hcell
  have e4 : hstore (h.set j (cells.set (off + N.toNat * 2 + 1) (.v (.sl 5 es)))) j (off + N.toNat * 2 + 1) [.own 5 (es ++ [[s0, s1, s2, s3, s4]])] = some (h.set j (cells.set (off + N.toNat * 2 + 1) (.own 5 (es ++ [[s0, s1, s2, s3, s4]])))) := hstore_at hj ho
  have hres : ∀ (tm : Array Value) w', (results Try.f50 tm).run Try.prog w' = .ok (.tuple #[]) w' := fun tm w' => by simp [results, Try.f50]
  refine wpIn_seq (seg_ok okE0 (a50k0 i N p0 p2 p3 p4 s0 s1 s2 s3 s4 h) hat rfl fun a1 w1 hat1 hd1 => ?_)
  refine wpIn_seq (region_choice okE0 (o0 := a50oo a50o1 0) (o1 := a50oo a50o1 1) (o2 := a50oo a50o1 2) (o3 := a50oo a50o1 3) (by kernel_rfl) (by kernel_rfl) (by kernel_rfl) (by kernel_rfl) (by kernel_rfl) (by kernel_rfl) (by kernel_rfl) (by kernel_rfl) (by kernel_rfl) (by kernel_rfl) (by kernel_rfl)
    (a50k1 i N p0 p2 p3 p4 s0 s1 s2 s3 s4 h) (a50k2 i N p0 p2 p3 p4 s0 s1 s2 s3 s4 h) (a50k3 i N p0 p2 p3 p4 s0 s1 s2 s3 s4 h) (a50k4 i N p0 p2 p3 p4 s0 s1 s2 s3 s4 h) (a50k2' i N p0 p2 p3 p4 s0 s1 s2 s3 s4 h) (a50k3' i N p0 p2 p3 p4 s0 s1 s2 s3 s4 h) (a50k4' i N p0 p2 p3 p4 s0 s1 s2 s3 s4 h) hat1 hd1 (fun a2 w2 hat2 hd2 => ?_) (fun a2 w2 hat2 hd2 => ?_))
  · -- all in one region
    have h7 : a2.eval (.tmp 7) = .bool false := by
      obtain ⟨G2, r2, _⟩ := hat2
      have := r2.slot 7
      rw [show (a50s5 i N p0 p2 p3 p4 s0 s1 s2 s3 s4 h true false).s 7 = .c (.v (.lit (.bool false))) from by kernel_rfl] at this
      exact RepA.litE this
    refine wpIn_cond_false h7 ?_
    have hB := a50B i N p0 p2 p3 p4 s0 s1 s2 s3 s4 h true
    rw [e1, Option.bind_some, Option.bind_some, e2, Option.bind_some] at hB
    dsimp only at hB
    rw [e3, Option.bind_some] at hB
    dsimp only at hB
    rw [show (Nat.beq 5 5 && Nat.ble (es.length + 1) maxApp) = true from by rw [Bool.and_eq_true, Nat.ble_eq]; exact ⟨rfl, hm⟩, cond_true, Option.bind_some, e4, Option.bind_some] at hB
    refine Code.wpIn_mono (fun e a' w' hq => ?_) (evC_ok (ro := none) (nn := 0) okE0 (noCall_ok _) _ 0 _ _ a2 w2 hB hat2 hd2)
    obtain ⟨hd', hq⟩ := hq
    have key : ∀ {st' : St} {G' : Gh}, finish E0 H50 Try.f50 h st' = some (.ret (.tup []), h.set j (cells.set (off + N.toNat * 2 + 1) (.own 5 (es ++ [[s0, s1, s2, s3, s4]])))) → RepSt d G' w' st' a'.tmps → Fr d G w G' w' → a'.defers = [] ∧ ∃ v, (results Try.f50 a'.tmps).run Try.prog w' = .ok v w' ∧ EndOk d G w (.ret (.tup [])) (h.set j (cells.set (off + N.toNat * 2 + 1) (.own 5 (es ++ [[s0, s1, s2, s3, s4]])))) (.returned v) w' := by
      intro st' G' h1 h2 h3
      obtain ⟨v, k1, ⟨G2, k2, k3, k4, k5⟩, k6⟩ := finish_ok okE0 hh h2 h3 h1
      exact ⟨hd', v, k1, G2, k2, k3, k4, k5⟩
    cases e with
    | normal => obtain ⟨st', G', h1, h2, h3, h4⟩ := hq; exact key h1 h2 h4
    | ret => obtain ⟨st', G', h1, h2, h3, h4⟩ := hq; exact key h1 h2 h4
    | exit i => obtain ⟨st', G', h1, _⟩ := hq; cases h1
    | panic ch => obtain ⟨x, v, G', h', _, h1, _⟩ := hq; cases h1
    | goto l => exact hq.elim
    | outgrown => exact hq.elim
  · -- the element laid behind
    have h7 : a2.eval (.tmp 7) = .bool true := by
      obtain ⟨G2, r2, _⟩ := hat2
      have := r2.slot 7
      rw [show (a50s5 i N p0 p2 p3 p4 s0 s1 s2 s3 s4 h false true).s 7 = .c (.v (.lit (.bool true))) from by kernel_rfl] at this
      exact RepA.litE this
    refine wpIn_cond_true h7 ?_
    have hA := a50A i N p0 p2 p3 p4 s0 s1 s2 s3 s4 h
    have e5 : lenA E0 24 (.sl 5 es) = some (es.length : Int) := by kernel_rfl
    rw [e1, Option.bind_some, e2, Option.bind_some] at hA
    dsimp only at hA
    rw [e3, Option.bind_some, e5, Option.bind_some] at hA
    refine wpIn_seq (draw_pre okE0 (noCall_ok _) 12 4 (by kernel_rfl) (behind_of (by kernel_rfl)) (fun st3 a3 G3 w3 hst r3 hnt3 hd3 hf3 => ?_) a50d hA hat2 hd2)
    have hst := Option.some.inj hst
    subst hst
    exact append_other (id := 3) (ops3 := a50o3) okE0 (o12 := a50oo a50o2 12) (o13 := a50oo a50o2 13) (o14 := a50oo a50o2 14) (o15 := a50oo a50o2 15) (q0 := a50oo a50o3 0) (q1 := a50oo a50o3 1) (TL := 27) (TN := 40) (TT := 24) (TE := 26) (fld := 1) (nL := 2) (n := 5) (fo := (1, ti24)) (iE := ti26) (iT := ti24)
      (by kernel_rfl) (by kernel_rfl) (by kernel_rfl) (by kernel_rfl) (by kernel_rfl) (by kernel_rfl) (by kernel_rfl) (by kernel_rfl) (by kernel_rfl) (by kernel_rfl) (by kernel_rfl) (by kernel_rfl) (by kernel_rfl) (by kernel_rfl) (by kernel_rfl) (by kernel_rfl)
      (by kernel_rfl) (by kernel_rfl) (by kernel_rfl) (by kernel_rfl) (by kernel_rfl) (by kernel_rfl) (by kernel_rfl) (by kernel_rfl) (by kernel_rfl)
      (by kernel_rfl) (by kernel_rfl) (by kernel_rfl) (by kernel_rfl) (by kernel_rfl)
      (by kernel_rfl) (by kernel_rfl) (by kernel_rfl) (by kernel_rfl) (by kernel_rfl) (by kernel_rfl) (by kernel_rfl) (by kernel_rfl) (by decide) (by kernel_rfl)
      hnt3 (by decide) r3 (j := j) (off := off) (len := len) (N := N) (es := es) (s := [s0, s1, s2, s3, s4]) (ph := [.lit (.int .i64 0), .lit (.int .i64 0), .lit (.string ⟨#[]⟩), .lit (.slice none 0 0), .lit (.slice none 0 0)]) (by kernel_rfl) (by kernel_rfl) hN0 hN (by kernel_rfl) (by kernel_rfl) rfl (by kernel_rfl) (by kernel_rfl) (by kernel_rfl) e4 hm (fun _ _ h => h)
      (fun a' w' G' k1 k2 k3 k4 => ⟨k4.trans hd3, _, hres _ _, G', hf3.trans k3, k1, k2, .tup .nil⟩)
end Go.Sh.T

namespace Go.Sh.T
open Go Go.Sh Go.Proofs
set_option maxRecDepth 100000
set_option linter.unusedVariables false


noncomputable def H56 : FHint := { tr := [16, 38], hp := [0, 8, 9, 10, 14, 15, 21, 22, 24, 25, 26, 30, 31, 32, 36, 37, 42, 43], base := [(12, 4), (28, 4), (34, 4)], ms := [14, 21, 36, 42] }
noncomputable def a56c0 : Code := match Try.f56.body with | some (.seq a _) => a | _ => .skip
noncomputable def a56o1 : Array Oper := match Try.f56.body with | some (.seq _ (.seq (.region _ ops _) _)) => ops | _ => #[]
noncomputable def a56o2 : Array Oper := match Try.f56.body with | some (.seq _ (.seq _ (.cond _ (.seq (.region _ ops _) _) _))) => ops | _ => #[]
noncomputable def a56o3 : Array Oper := match Try.f56.body with | some (.seq _ (.seq _ (.cond _ (.seq _ (.region _ ops _)) _))) => ops | _ => #[]
noncomputable def a56c4 : Code := match Try.f56.body with | some (.seq _ (.seq _ (.cond _ _ b))) => b | _ => .skip
noncomputable def a56oo (l : Array Oper) (i : Nat) : Oper := l.getD i default
theorem a56body : Try.f56.body = some (.seq a56c0 (.seq (.region 1 a56o1 true) (.cond (.tmp 7) (.seq (.region 2 a56o2 true) (.region 3 a56o3 false)) a56c4))) := by kernel_rfl
noncomputable def a56s0 (i : Nat) (N : Int) (p0 p2 p3 p4 s0 s1 s2 s3 s4 : AV) (h : Heap) : St := { s := lkS [(0, .c (.v (.hp i 0))), (1, .c (.v (.agg [p0, .lit (.int .i64 N), p2, p3, p4]))), (2, .c (.v (.agg [s0, s1, s2, s3, s4])))], h := h }
noncomputable def a56s1 (i : Nat) (N : Int) (p0 p2 p3 p4 s0 s1 s2 s3 s4 : AV) (h : Heap) : St := { s := fun t => (ups (a56s0 i N p0 p2 p3 p4 s0 s1 s2 s3 s4 h).s [(4, .loc [.v p0, .v (.lit (.int .i64 N)), .v p2, .v p3, .v p4]), (5, .loc [.v s0, .v s1, .v s2, .v s3, .v s4])] t).noPath, h := h }
noncomputable def a56s2 (i : Nat) (N : Int) (p0 p2 p3 p4 s0 s1 s2 s3 s4 : AV) (h : Heap) : St := { s := ups (a56s1 i N p0 p2 p3 p4 s0 s1 s2 s3 s4 h).s [(6, .loc [.v (.lit (.bool false))])], h := h, pb := fun _ => false }
noncomputable def a56s3 (i : Nat) (N : Int) (p0 p2 p3 p4 s0 s1 s2 s3 s4 : AV) (h : Heap) (b : Bool) : St := { s := ups (a56s2 i N p0 p2 p3 p4 s0 s1 s2 s3 s4 h).s [(6, .loc [.v (.lit (.bool b))])], h := h, pb := fun _ => false }
noncomputable def a56s4 (i : Nat) (N : Int) (p0 p2 p3 p4 s0 s1 s2 s3 s4 : AV) (h : Heap) (b c : Bool) : St := { s := ups (a56s3 i N p0 p2 p3 p4 s0 s1 s2 s3 s4 h b).s [(6, .loc [.v (.lit (.bool c))])], h := h, pb := fun _ => false }
noncomputable def a56s5 (i : Nat) (N : Int) (p0 p2 p3 p4 s0 s1 s2 s3 s4 : AV) (h : Heap) (b c : Bool) : St := { s := ups (a56s4 i N p0 p2 p3 p4 s0 s1 s2 s3 s4 h b c).s [(7, .c (.v (.lit (.bool c))))], h := h, pb := fun _ => false }
theorem a56k0 (i : Nat) (N : Int) (p0 p2 p3 p4 s0 s1 s2 s3 s4 : AV) (h : Heap) : evC E0 H56 44 noCall 0 a56c0 0 (a56s0 i N p0 p2 p3 p4 s0 s1 s2 s3 s4 h) kE kP = some (.inl (.normal, a56s1 i N p0 p2 p3 p4 s0 s1 s2 s3 s4 h)) := by kernel_rfl
theorem a56k1 (i : Nat) (N : Int) (p0 p2 p3 p4 s0 s1 s2 s3 s4 : AV) (h : Heap) : stepD E0 H56 44 noCall a56o1 0 (a56oo a56o1 0) (a56s1 i N p0 p2 p3 p4 s0 s1 s2 s3 s4 h) = some (.inl (a56s2 i N p0 p2 p3 p4 s0 s1 s2 s3 s4 h)) := by kernel_rfl
theorem a56k2 (i : Nat) (N : Int) (p0 p2 p3 p4 s0 s1 s2 s3 s4 : AV) (h : Heap) : stepD E0 H56 44 noCall a56o1 1 (a56oo a56o1 1) (a56s2 i N p0 p2 p3 p4 s0 s1 s2 s3 s4 h) = some (.inl (a56s3 i N p0 p2 p3 p4 s0 s1 s2 s3 s4 h true)) := by kernel_rfl
theorem a56k3 (i : Nat) (N : Int) (p0 p2 p3 p4 s0 s1 s2 s3 s4 : AV) (h : Heap) : stepD E0 H56 44 noCall a56o1 2 (a56oo a56o1 2) (a56s3 i N p0 p2 p3 p4 s0 s1 s2 s3 s4 h true) = some (.inl (a56s4 i N p0 p2 p3 p4 s0 s1 s2 s3 s4 h true false)) := by kernel_rfl
theorem a56k4 (i : Nat) (N : Int) (p0 p2 p3 p4 s0 s1 s2 s3 s4 : AV) (h : Heap) : stepD E0 H56 44 noCall a56o1 3 (a56oo a56o1 3) (a56s4 i N p0 p2 p3 p4 s0 s1 s2 s3 s4 h true false) = some (.inl (a56s5 i N p0 p2 p3 p4 s0 s1 s2 s3 s4 h true false)) := by kernel_rfl
theorem a56k2' (i : Nat) (N : Int) (p0 p2 p3 p4 s0 s1 s2 s3 s4 : AV) (h : Heap) : stepD E0 H56 44 noCall a56o1 2 (a56oo a56o1 2) (a56s2 i N p0 p2 p3 p4 s0 s1 s2 s3 s4 h) = some (.inl (a56s3 i N p0 p2 p3 p4 s0 s1 s2 s3 s4 h false)) := by kernel_rfl
theorem a56k3' (i : Nat) (N : Int) (p0 p2 p3 p4 s0 s1 s2 s3 s4 : AV) (h : Heap) : stepD E0 H56 44 noCall a56o1 1 (a56oo a56o1 1) (a56s3 i N p0 p2 p3 p4 s0 s1 s2 s3 s4 h false) = some (.inl (a56s4 i N p0 p2 p3 p4 s0 s1 s2 s3 s4 h false true)) := by kernel_rfl
theorem a56k4' (i : Nat) (N : Int) (p0 p2 p3 p4 s0 s1 s2 s3 s4 : AV) (h : Heap) : stepD E0 H56 44 noCall a56o1 3 (a56oo a56o1 3) (a56s4 i N p0 p2 p3 p4 s0 s1 s2 s3 s4 h false true) = some (.inl (a56s5 i N p0 p2 p3 p4 s0 s1 s2 s3 s4 h false true)) := by kernel_rfl

/-- The way of one order: all in one region. -/
noncomputable def a56K (h0 : Heap) : Ex → St → R := fun e st => match e with
  | .exit _ => none
  | _ => finish E0 H56 Try.f56 h0 st
theorem a56B (i : Nat) (N : Int) (p0 p2 p3 p4 s0 s1 s2 s3 s4 : AV) (h : Heap) (b : Bool) : evC E0 H56 44 noCall 0 a56c4 0 (a56s5 i N p0 p2 p3 p4 s0 s1 s2 s3 s4 h true false) (a56K h) (fun _ _ => none) = (hpart false 1 1 i h).bind fun v1 => (hpart false 1 1 i h).bind fun v2 => (indexH 2 v2 (.lit (.int .i64 N))).bind fun q =>
    (htake h q.1 (q.2 + 0)).bind fun t => cond (Nat.beq t.1.1 5 && Nat.ble (t.1.2.length + 1) maxApp) ((indexH 2 v1 (.lit (.int .i64 N))).bind fun q => (hstore t.2 q.1 (q.2 + 0) [.own 5 (t.1.2 ++ [[s0, s1, s2, s3, s4]])]).bind fun h2 => some (.ret (.tup []), h2)) none := by kernel_rfl

/-- The way of the other: the first twelve operations. -/
noncomputable def a56P (i : Nat) (N : Int) (p0 p2 p3 p4 s0 s1 s2 s3 s4 : AV) (h : Heap) (v : AV) (q : Nat × Nat) (t : (Nat × List (List AV)) × Heap) (n : Int) : St :=
  { s := ups (a56s5 i N p0 p2 p3 p4 s0 s1 s2 s3 s4 h false true).s [(8, .c (.v (.hp i 0))), (9, .c (.v (.hp i 0))), (10, .c (.v (.hp i 1))), (11, .c (.v v)), (12, .path 4 1), (13, .c (.v (.lit (.int .i64 N)))), (14, .c (.v (.hp q.1 q.2))), (15, .c (.v (.hp q.1 (q.2 + 0)))),
      (16, .c (.own t.1.1 t.1.2)), (17, .c (.v (.agg [s0, s1, s2, s3, s4]))), (18, .c (.v (.lit (.int .i64 n)))), (19, .c (.own 5 [[.lit (.int .i64 0), .lit (.int .i64 0), .lit (.string ⟨#[]⟩), .lit (.slice none 0 0), .lit (.slice none 0 0)]]))], h := t.2, pb := addPb (fun _ => false) [(12, .path 4 1)] }
theorem a56A (i : Nat) (N : Int) (p0 p2 p3 p4 s0 s1 s2 s3 s4 : AV) (h : Heap) : opsD E0 H56 44 noCall a56o2 (ancs a56o2.toList []) ((indexed a56o2).take 12) (a56s5 i N p0 p2 p3 p4 s0 s1 s2 s3 s4 h false true) (fun st => some st) (fun _ _ => none) = (hpart false 1 1 i h).bind fun v => (indexH 2 v (.lit (.int .i64 N))).bind fun q =>
    (htake h q.1 (q.2 + 0)).bind fun t => (lenA E0 24 (.sl t.1.1 t.1.2)).bind fun n => some (a56P i N p0 p2 p3 p4 s0 s1 s2 s3 s4 h v q t n) := by kernel_rfl
theorem a56d : drawOk H56 a56o2 (ancs a56o2.toList []) ((indexed a56o2).take 12) = true := by kernel_rfl

/-- (*asker).low and its like: one need gets a type more. -/
theorem push56 {i j off len : Nat} {N : Int} (p0 p2 p3 p4 s0 s1 s2 s3 s4 : AV) {es : List (List AV)} {h : Heap} {cs cells : List Cell} (hi : h[i]? = some cs) (hc : cs[1]? = some (.v (.hs 2 j off len))) (hN0 : 0 ≤ N) (hN : N.toNat < len)
    (hj : h[j]? = some cells) (hcell : cells[off + N.toNat * 2 + 0]? = some (.own 5 es)) (hm : es.length + 1 ≤ maxApp) : Ends Try.prog 56 [.hp i 0, .agg [p0, .lit (.int .i64 N), p2, p3, p4], .agg [s0, s1, s2, s3, s4]] h (.ret (.tup [])) (h.set j (cells.set (off + N.toNat * 2 + 0) (.own 5 (es ++ [[s0, s1, s2, s3, s4]])))) := by
  refine ⟨⟨Try.f56, Try.func56, by kernel_rfl, rfl⟩, fun d G w argv hr hh hw => ?_⟩
  refine calls_of_wp Try.func56 a56body ?_
  refine (wpIn_wide (n := 0)).1 ?_
  have hal : argv.size = 3 := by have := hr.length; simpa using this.symm
  have hat : AtSt d 44 G w (a56s0 i N p0 p2 p3 p4 s0 s1 s2 s3 s4 h) { tmps := argv ++ Array.replicate (Try.f56.ntmps - argv.size) undef, defers := [] } w := by
    refine ⟨G, ⟨fun k => ?_, fun u t off hu => ?_, hh, hw⟩, by simp [hal, Try.f56], Fr.refl d G w⟩
    · rcases lkS_spec [(0, .c (.v (.hp i 0))), (1, .c (.v (.agg [p0, .lit (.int .i64 N), p2, p3, p4]))), (2, .c (.v (.agg [s0, s1, s2, s3, s4])))] k with e | e
      · show RepSlot _ _ _ _ (lkS _ _) _
        rw [e]; trivial
      · refine argSlots_spec [.hp i 0, .agg [p0, .lit (.int .i64 N), p2, p3, p4], .agg [s0, s1, s2, s3, s4]] 0 argv.toList hr (fun m x hm => ?_) _ e
        have hj' : m < argv.size := by simpa using (List.getElem?_eq_some_iff.1 hm).1
        rw [Nat.zero_add, Array.getD_eq_getD_getElem?, Array.getElem?_append_left hj', ← Array.getElem?_toList, hm]; rfl
    · exfalso
      have hu : lkS [(0, .c (.v (.hp i 0))), (1, .c (.v (.agg [p0, .lit (.int .i64 N), p2, p3, p4]))), (2, .c (.v (.agg [s0, s1, s2, s3, s4])))] u = .path t off := hu
      rcases lkS_spec [(0, .c (.v (.hp i 0))), (1, .c (.v (.agg [p0, .lit (.int .i64 N), p2, p3, p4]))), (2, .c (.v (.agg [s0, s1, s2, s3, s4])))] u with e | e
      · rw [e] at hu; cases hu
      · rw [hu] at e; simp at e
  have ho : off + N.toNat * 2 + 0 < cells.length := (List.getElem?_eq_some_iff.1 hcell).1
  have e1 : hpart false 1 1 i h = some (.hs 2 j off len) := hpart_cell hi hc
  have e2 : indexH 2 (.hs 2 j off len) (.lit (.int .i64 N)) = some (j, off + N.toNat * 2) := indexH_at hN0 hN
  have e3 : htake h j (off + N.toNat * 2 + 0) = some ((5, es), h.set j (cells.set (off + N.toNat * 2 + 0) (.v (.sl 5 es)))) := htake_at hj hcell
  have e4 : hstore (h.set j (cells.set (off + N.toNat * 2 + 0) (.v (.sl 5 es)))) j (off + N.toNat * 2 + 0) [.own 5 (es ++ [[s0, s1, s2, s3, s4]])] = some (h.set j (cells.set (off + N.toNat * 2 + 0) (.own 5 (es ++ [[s0, s1, s2, s3, s4]])))) := hstore_at hj ho
  have hres : ∀ (tm : Array Value) w', (results Try.f56 tm).run Try.prog w' = .ok (.tuple #[]) w' := fun tm w' => by simp [results, Try.f56]
  refine wpIn_seq (seg_ok okE0 (a56k0 i N p0 p2 p3 p4 s0 s1 s2 s3 s4 h) hat rfl fun a1 w1 hat1 hd1 => ?_)
  refine wpIn_seq (region_choice okE0 (o0 := a56oo a56o1 0) (o1 := a56oo a56o1 1) (o2 := a56oo a56o1 2) (o3 := a56oo a56o1 3) (by kernel_rfl) (by kernel_rfl) (by kernel_rfl) (by kernel_rfl) (by kernel_rfl) (by kernel_rfl) (by kernel_rfl) (by kernel_rfl) (by kernel_rfl) (by kernel_rfl) (by kernel_rfl)
    (a56k1 i N p0 p2 p3 p4 s0 s1 s2 s3 s4 h) (a56k2 i N p0 p2 p3 p4 s0 s1 s2 s3 s4 h) (a56k3 i N p0 p2 p3 p4 s0 s1 s2 s3 s4 h) (a56k4 i N p0 p2 p3 p4 s0 s1 s2 s3 s4 h) (a56k2' i N p0 p2 p3 p4 s0 s1 s2 s3 s4 h) (a56k3' i N p0 p2 p3 p4 s0 s1 s2 s3 s4 h) (a56k4' i N p0 p2 p3 p4 s0 s1 s2 s3 s4 h) hat1 hd1 (fun a2 w2 hat2 hd2 => ?_) (fun a2 w2 hat2 hd2 => ?_))
  · -- all in one region
    have h7 : a2.eval (.tmp 7) = .bool false := by
      obtain ⟨G2, r2, _⟩ := hat2
      have := r2.slot 7
      rw [show (a56s5 i N p0 p2 p3 p4 s0 s1 s2 s3 s4 h true false).s 7 = .c (.v (.lit (.bool false))) from by kernel_rfl] at this
      exact RepA.litE this
    refine wpIn_cond_false h7 ?_
    have hB := a56B i N p0 p2 p3 p4 s0 s1 s2 s3 s4 h true
    rw [e1, Option.bind_some, Option.bind_some, e2, Option.bind_some] at hB
    dsimp only at hB
    rw [e3, Option.bind_some] at hB
    dsimp only at hB
    rw [show (Nat.beq 5 5 && Nat.ble (es.length + 1) maxApp) = true from by rw [Bool.and_eq_true, Nat.ble_eq]; exact ⟨rfl, hm⟩, cond_true, Option.bind_some, e4, Option.bind_some] at hB
    refine Code.wpIn_mono (fun e a' w' hq => ?_) (evC_ok (ro := none) (nn := 0) okE0 (noCall_ok _) _ 0 _ _ a2 w2 hB hat2 hd2)
    obtain ⟨hd', hq⟩ := hq
    have key : ∀ {st' : St} {G' : Gh}, finish E0 H56 Try.f56 h st' = some (.ret (.tup []), h.set j (cells.set (off + N.toNat * 2 + 0) (.own 5 (es ++ [[s0, s1, s2, s3, s4]])))) → RepSt d G' w' st' a'.tmps → Fr d G w G' w' → a'.defers = [] ∧ ∃ v, (results Try.f56 a'.tmps).run Try.prog w' = .ok v w' ∧ EndOk d G w (.ret (.tup [])) (h.set j (cells.set (off + N.toNat * 2 + 0) (.own 5 (es ++ [[s0, s1, s2, s3, s4]])))) (.returned v) w' := by
      intro st' G' h1 h2 h3
      obtain ⟨v, k1, ⟨G2, k2, k3, k4, k5⟩, k6⟩ := finish_ok okE0 hh h2 h3 h1
      exact ⟨hd', v, k1, G2, k2, k3, k4, k5⟩
    cases e with
    | normal => obtain ⟨st', G', h1, h2, h3, h4⟩ := hq; exact key h1 h2 h4
    | ret => obtain ⟨st', G', h1, h2, h3, h4⟩ := hq; exact key h1 h2 h4
    | exit i => obtain ⟨st', G', h1, _⟩ := hq; cases h1
    | panic ch => obtain ⟨x, v, G', h', _, h1, _⟩ := hq; cases h1
    | goto l => exact hq.elim
    | outgrown => exact hq.elim
  · -- the element laid behind
    have h7 : a2.eval (.tmp 7) = .bool true := by
      obtain ⟨G2, r2, _⟩ := hat2
      have := r2.slot 7
      rw [show (a56s5 i N p0 p2 p3 p4 s0 s1 s2 s3 s4 h false true).s 7 = .c (.v (.lit (.bool true))) from by kernel_rfl] at this
      exact RepA.litE this
    refine wpIn_cond_true h7 ?_
    have hA := a56A i N p0 p2 p3 p4 s0 s1 s2 s3 s4 h
    have e5 : lenA E0 24 (.sl 5 es) = some (es.length : Int) := by kernel_rfl
    rw [e1, Option.bind_some, e2, Option.bind_some] at hA
    dsimp only at hA
    rw [e3, Option.bind_some, e5, Option.bind_some] at hA
    refine wpIn_seq (draw_pre okE0 (noCall_ok _) 12 4 (by kernel_rfl) (behind_of (by kernel_rfl)) (fun st3 a3 G3 w3 hst r3 hnt3 hd3 hf3 => ?_) a56d hA hat2 hd2)
    have hst := Option.some.inj hst
    subst hst
    exact append_other (id := 3) (ops3 := a56o3) okE0 (o12 := a56oo a56o2 12) (o13 := a56oo a56o2 13) (o14 := a56oo a56o2 14) (o15 := a56oo a56o2 15) (q0 := a56oo a56o3 0) (q1 := a56oo a56o3 1) (TL := 27) (TN := 40) (TT := 24) (TE := 26) (fld := 0) (nL := 2) (n := 5) (fo := (0, ti24)) (iE := ti26) (iT := ti24)
      (by kernel_rfl) (by kernel_rfl) (by kernel_rfl) (by kernel_rfl) (by kernel_rfl) (by kernel_rfl) (by kernel_rfl) (by kernel_rfl) (by kernel_rfl) (by kernel_rfl) (by kernel_rfl) (by kernel_rfl) (by kernel_rfl) (by kernel_rfl) (by kernel_rfl) (by kernel_rfl)
      (by kernel_rfl) (by kernel_rfl) (by kernel_rfl) (by kernel_rfl) (by kernel_rfl) (by kernel_rfl) (by kernel_rfl) (by kernel_rfl) (by kernel_rfl)
      (by kernel_rfl) (by kernel_rfl) (by kernel_rfl) (by kernel_rfl) (by kernel_rfl)
      (by kernel_rfl) (by kernel_rfl) (by kernel_rfl) (by kernel_rfl) (by kernel_rfl) (by kernel_rfl) (by kernel_rfl) (by kernel_rfl) (by decide) (by kernel_rfl)
      hnt3 (by decide) r3 (j := j) (off := off) (len := len) (N := N) (es := es) (s := [s0, s1, s2, s3, s4]) (ph := [.lit (.int .i64 0), .lit (.int .i64 0), .lit (.string ⟨#[]⟩), .lit (.slice none 0 0), .lit (.slice none 0 0)]) (by kernel_rfl) (by kernel_rfl) hN0 hN (by kernel_rfl) (by kernel_rfl) rfl (by kernel_rfl) (by kernel_rfl) (by kernel_rfl) e4 hm (fun _ _ h => h)
      (fun a' w' G' k1 k2 k3 k4 => ⟨k4.trans hd3, _, hres _ _, G', hf3.trans k3, k1, k2, .tup .nil⟩)
end Go.Sh.T

namespace Go.Sh.T
open Go Go.Sh Go.Proofs
set_option maxRecDepth 100000
set_option linter.unusedVariables false


noncomputable def H76 : FHint := { tr := [16, 38], hp := [0, 8, 9, 10, 14, 15, 21, 22, 24, 25, 26, 30, 31, 32, 36, 37, 42, 43], base := [(12, 4), (28, 4), (34, 4)], ms := [14, 21, 36, 42] }
noncomputable def a76c0 : Code := match Try.f76.body with | some (.seq a _) => a | _ => .skip
noncomputable def a76o1 : Array Oper := match Try.f76.body with | some (.seq _ (.seq (.region _ ops _) _)) => ops | _ => #[]
noncomputable def a76o2 : Array Oper := match Try.f76.body with | some (.seq _ (.seq _ (.cond _ (.seq (.region _ ops _) _) _))) => ops | _ => #[]
noncomputable def a76o3 : Array Oper := match Try.f76.body with | some (.seq _ (.seq _ (.cond _ (.seq _ (.region _ ops _)) _))) => ops | _ => #[]
noncomputable def a76c4 : Code := match Try.f76.body with | some (.seq _ (.seq _ (.cond _ _ b))) => b | _ => .skip
noncomputable def a76oo (l : Array Oper) (i : Nat) : Oper := l.getD i default
theorem a76body : Try.f76.body = some (.seq a76c0 (.seq (.region 1 a76o1 true) (.cond (.tmp 7) (.seq (.region 2 a76o2 true) (.region 3 a76o3 false)) a76c4))) := by kernel_rfl
noncomputable def a76s0 (i : Nat) (N : Int) (p0 p2 p3 p4 s0 s1 s2 s3 s4 : AV) (h : Heap) : St := { s := lkS [(0, .c (.v (.hp i 0))), (1, .c (.v (.agg [p0, .lit (.int .i64 N), p2, p3, p4]))), (2, .c (.v (.agg [s0, s1, s2, s3, s4])))], h := h }
noncomputable def a76s1 (i : Nat) (N : Int) (p0 p2 p3 p4 s0 s1 s2 s3 s4 : AV) (h : Heap) : St := { s := fun t => (ups (a76s0 i N p0 p2 p3 p4 s0 s1 s2 s3 s4 h).s [(4, .loc [.v p0, .v (.lit (.int .i64 N)), .v p2, .v p3, .v p4]), (5, .loc [.v s0, .v s1, .v s2, .v s3, .v s4])] t).noPath, h := h }
noncomputable def a76s2 (i : Nat) (N : Int) (p0 p2 p3 p4 s0 s1 s2 s3 s4 : AV) (h : Heap) : St := { s := ups (a76s1 i N p0 p2 p3 p4 s0 s1 s2 s3 s4 h).s [(6, .loc [.v (.lit (.bool false))])], h := h, pb := fun _ => false }
noncomputable def a76s3 (i : Nat) (N : Int) (p0 p2 p3 p4 s0 s1 s2 s3 s4 : AV) (h : Heap) (b : Bool) : St := { s := ups (a76s2 i N p0 p2 p3 p4 s0 s1 s2 s3 s4 h).s [(6, .loc [.v (.lit (.bool b))])], h := h, pb := fun _ => false }
noncomputable def a76s4 (i : Nat) (N : Int) (p0 p2 p3 p4 s0 s1 s2 s3 s4 : AV) (h : Heap) (b c : Bool) : St := { s := ups (a76s3 i N p0 p2 p3 p4 s0 s1 s2 s3 s4 h b).s [(6, .loc [.v (.lit (.bool c))])], h := h, pb := fun _ => false }
noncomputable def a76s5 (i : Nat) (N : Int) (p0 p2 p3 p4 s0 s1 s2 s3 s4 : AV) (h : Heap) (b c : Bool) : St := { s := ups (a76s4 i N p0 p2 p3 p4 s0 s1 s2 s3 s4 h b c).s [(7, .c (.v (.lit (.bool c))))], h := h, pb := fun _ => false }
theorem a76k0 (i : Nat) (N : Int) (p0 p2 p3 p4 s0 s1 s2 s3 s4 : AV) (h : Heap) : evC E0 H76 44 noCall 0 a76c0 0 (a76s0 i N p0 p2 p3 p4 s0 s1 s2 s3 s4 h) kE kP = some (.inl (.normal, a76s1 i N p0 p2 p3 p4 s0 s1 s2 s3 s4 h)) := by kernel_rfl
theorem a76k1 (i : Nat) (N : Int) (p0 p2 p3 p4 s0 s1 s2 s3 s4 : AV) (h : Heap) : stepD E0 H76 44 noCall a76o1 0 (a76oo a76o1 0) (a76s1 i N p0 p2 p3 p4 s0 s1 s2 s3 s4 h) = some (.inl (a76s2 i N p0 p2 p3 p4 s0 s1 s2 s3 s4 h)) := by kernel_rfl
theorem a76k2 (i : Nat) (N : Int) (p0 p2 p3 p4 s0 s1 s2 s3 s4 : AV) (h : Heap) : stepD E0 H76 44 noCall a76o1 1 (a76oo a76o1 1) (a76s2 i N p0 p2 p3 p4 s0 s1 s2 s3 s4 h) = some (.inl (a76s3 i N p0 p2 p3 p4 s0 s1 s2 s3 s4 h true)) := by kernel_rfl
theorem a76k3 (i : Nat) (N : Int) (p0 p2 p3 p4 s0 s1 s2 s3 s4 : AV) (h : Heap) : stepD E0 H76 44 noCall a76o1 2 (a76oo a76o1 2) (a76s3 i N p0 p2 p3 p4 s0 s1 s2 s3 s4 h true) = some (.inl (a76s4 i N p0 p2 p3 p4 s0 s1 s2 s3 s4 h true false)) := by kernel_rfl
theorem a76k4 (i : Nat) (N : Int) (p0 p2 p3 p4 s0 s1 s2 s3 s4 : AV) (h : Heap) : stepD E0 H76 44 noCall a76o1 3 (a76oo a76o1 3) (a76s4 i N p0 p2 p3 p4 s0 s1 s2 s3 s4 h true false) = some (.inl (a76s5 i N p0 p2 p3 p4 s0 s1 s2 s3 s4 h true false)) := by kernel_rfl
theorem a76k2' (i : Nat) (N : Int) (p0 p2 p3 p4 s0 s1 s2 s3 s4 : AV) (h : Heap) : stepD E0 H76 44 noCall a76o1 2 (a76oo a76o1 2) (a76s2 i N p0 p2 p3 p4 s0 s1 s2 s3 s4 h) = some (.inl (a76s3 i N p0 p2 p3 p4 s0 s1 s2 s3 s4 h false)) := by kernel_rfl
theorem a76k3' (i : Nat) (N : Int) (p0 p2 p3 p4 s0 s1 s2 s3 s4 : AV) (h : Heap) : stepD E0 H76 44 noCall a76o1 1 (a76oo a76o1 1) (a76s3 i N p0 p2 p3 p4 s0 s1 s2 s3 s4 h false) = some (.inl (a76s4 i N p0 p2 p3 p4 s0 s1 s2 s3 s4 h false true)) := by kernel_rfl
theorem a76k4' (i : Nat) (N : Int) (p0 p2 p3 p4 s0 s1 s2 s3 s4 : AV) (h : Heap) : stepD E0 H76 44 noCall a76o1 3 (a76oo a76o1 3) (a76s4 i N p0 p2 p3 p4 s0 s1 s2 s3 s4 h false true) = some (.inl (a76s5 i N p0 p2 p3 p4 s0 s1 s2 s3 s4 h false true)) := by kernel_rfl

/-- The way of one order: all in one region. -/
noncomputable def a76K (h0 : Heap) : Ex → St → R := fun e st => match e with
  | .exit _ => none
  | _ => finish E0 H76 Try.f76 h0 st
theorem a76B (i : Nat) (N : Int) (p0 p2 p3 p4 s0 s1 s2 s3 s4 : AV) (h : Heap) (b : Bool) : evC E0 H76 44 noCall 0 a76c4 0 (a76s5 i N p0 p2 p3 p4 s0 s1 s2 s3 s4 h true false) (a76K h) (fun _ _ => none) = (hpart false 1 1 i h).bind fun v1 => (hpart false 1 1 i h).bind fun v2 => (indexH 2 v2 (.lit (.int .i64 N))).bind fun q =>
    (htake h q.1 (q.2 + 1)).bind fun t => cond (Nat.beq t.1.1 5 && Nat.ble (t.1.2.length + 1) maxApp) ((indexH 2 v1 (.lit (.int .i64 N))).bind fun q => (hstore t.2 q.1 (q.2 + 1) [.own 5 (t.1.2 ++ [[s0, s1, s2, s3, s4]])]).bind fun h2 => some (.ret (.tup []), h2)) none := by kernel_rfl

/-- The way of the other: the first twelve operations. -/
noncomputable def a76P (i : Nat) (N : Int) (p0 p2 p3 p4 s0 s1 s2 s3 s4 : AV) (h : Heap) (v : AV) (q : Nat × Nat) (t : (Nat × List (List AV)) × Heap) (n : Int) : St :=
  { s := ups (a76s5 i N p0 p2 p3 p4 s0 s1 s2 s3 s4 h false true).s [(8, .c (.v (.hp i 0))), (9, .c (.v (.hp i 0))), (10, .c (.v (.hp i 1))), (11, .c (.v v)), (12, .path 4 1), (13, .c (.v (.lit (.int .i64 N)))), (14, .c (.v (.hp q.1 q.2))), (15, .c (.v (.hp q.1 (q.2 + 1)))),
      (16, .c (.own t.1.1 t.1.2)), (17, .c (.v (.agg [s0, s1, s2, s3, s4]))), (18, .c (.v (.lit (.int .i64 n)))), (19, .c (.own 5 [[.lit (.int .i64 0), .lit (.int .i64 0), .lit (.string ⟨#[]⟩), .lit (.slice none 0 0), .lit (.slice none 0 0)]]))], h := t.2, pb := addPb (fun _ => false) [(12, .path 4 1)] }
theorem a76A (i : Nat) (N : Int) (p0 p2 p3 p4 s0 s1 s2 s3 s4 : AV) (h : Heap) : opsD E0 H76 44 noCall a76o2 (ancs a76o2.toList []) ((indexed a76o2).take 12) (a76s5 i N p0 p2 p3 p4 s0 s1 s2 s3 s4 h false true) (fun st => some st) (fun _ _ => none) = (hpart false 1 1 i h).bind fun v => (indexH 2 v (.lit (.int .i64 N))).bind fun q =>
    (htake h q.1 (q.2 + 1)).bind fun t => (lenA E0 24 (.sl t.1.1 t.1.2)).bind fun n => some (a76P i N p0 p2 p3 p4 s0 s1 s2 s3 s4 h v q t n) := by kernel_rfl
theorem a76d : drawOk H76 a76o2 (ancs a76o2.toList []) ((indexed a76o2).take 12) = true := by kernel_rfl

/-- (*asker).low and its like: one need gets a type more. -/
theorem push76 {i j off len : Nat} {N : Int} (p0 p2 p3 p4 s0 s1 s2 s3 s4 : AV) {es : List (List AV)} {h : Heap} {cs cells : List Cell} (hi : h[i]? = some cs) (hc : cs[1]? = some (.v (.hs 2 j off len))) (hN0 : 0 ≤ N) (hN : N.toNat < len)
    (hj : h[j]? = some cells) (hcell : cells[off + N.toNat * 2 + 1]? = some (.own 5 es)) (hm : es.length + 1 ≤ maxApp) : Ends Try.prog 76 [.hp i 0, .agg [p0, .lit (.int .i64 N), p2, p3, p4], .agg [s0, s1, s2, s3, s4]] h (.ret (.tup [])) (h.set j (cells.set (off + N.toNat * 2 + 1) (.own 5 (es ++ [[s0, s1, s2, s3, s4]])))) := by
  refine ⟨⟨Try.f76, Try.func76, by kernel_rfl, rfl⟩, fun d G w argv hr hh hw => ?_⟩
  refine calls_of_wp Try.func76 a76body ?_
  refine (wpIn_wide (n := 0)).1 ?_
  have hal : argv.size = 3 := by have := hr.length; simpa using this.symm
  have hat : AtSt d 44 G w (a76s0 i N p0 p2 p3 p4 s0 s1 s2 s3 s4 h) { tmps := argv ++ Array.replicate (Try.f76.ntmps - argv.size) undef, defers := [] } w := by
    refine ⟨G, ⟨fun k => ?_, fun u t off hu => ?_, hh, hw⟩, by simp [hal, Try.f76], Fr.refl d G w⟩
    · rcases lkS_spec [(0, .c (.v (.hp i 0))), (1, .c (.v (.agg [p0, .lit (.int .i64 N), p2, p3, p4]))), (2, .c (.v (.agg [s0, s1, s2, s3, s4])))] k with e | e
      · show RepSlot _ _ _ _ (lkS _ _) _
        rw [e]; trivial
      · refine argSlots_spec [.hp i 0, .agg [p0, .lit (.int .i64 N), p2, p3, p4], .agg [s0, s1, s2, s3, s4]] 0 argv.toList hr (fun m x hm => ?_) _ e
        have hj' : m < argv.size := by simpa using (List.getElem?_eq_some_iff.1 hm).1
        rw [Nat.zero_add, Array.getD_eq_getD_getElem?, Array.getElem?_append_left hj', ← Array.getElem?_toList, hm]; rfl
    · exfalso
      have hu : lkS [(0, .c (.v (.hp i 0))), (1, .c (.v (.agg [p0, .lit (.int .i64 N), p2, p3, p4]))), (2, .c (.v (.agg [s0, s1, s2, s3, s4])))] u = .path t off := hu
      rcases lkS_spec [(0, .c (.v (.hp i 0))), (1, .c (.v (.agg [p0, .lit (.int .i64 N), p2, p3, p4]))), (2, .c (.v (.agg [s0, s1, s2, s3, s4])))] u with e | e
      · rw [e] at hu; cases hu
      · rw [hu] at e; simp at e
  have ho : off + N.toNat * 2 + 1 < cells.length := (List.getElem?_eq_some_iff.1 hcell).1
  have e1 : hpart false 1 1 i h = some (.hs 2 j off len) := hpart_cell hi hc
  have e2 : indexH 2 (.hs 2 j off len) (.lit (.int .i64 N)) = some (j, off + N.toNat * 2) := indexH_at hN0 hN
  have e3 : htake h j (off + N.toNat * 2 + 1) = some ((5, es), h.set j (cells.set (off + N.toNat * 2 + 1) (.v (.sl 5 es)))) := htake_at hj hcell
  have e4 : hstore (h.set j (cells.set (off + N.toNat * 2 + 1) (.v (.sl 5 es)))) j (off + N.toNat * 2 + 1) [.own 5 (es ++ [[s0, s1, s2, s3, s4]])] = some (h.set j (cells.set (off + N.toNat * 2 + 1) (.own 5 (es ++ [[s0, s1, s2, s3, s4]])))) := hstore_at hj ho
  have hres : ∀ (tm : Array Value) w', (results Try.f76 tm).run Try.prog w' = .ok (.tuple #[]) w' := fun tm w' => by simp [results, Try.f76]
  refine wpIn_seq (seg_ok okE0 (a76k0 i N p0 p2 p3 p4 s0 s1 s2 s3 s4 h) hat rfl fun a1 w1 hat1 hd1 => ?_)
  refine wpIn_seq (region_choice okE0 (o0 := a76oo a76o1 0) (o1 := a76oo a76o1 1) (o2 := a76oo a76o1 2) (o3 := a76oo a76o1 3) (by kernel_rfl) (by kernel_rfl) (by kernel_rfl) (by kernel_rfl) (by kernel_rfl) (by kernel_rfl) (by kernel_rfl) (by kernel_rfl) (by kernel_rfl) (by kernel_rfl) (by kernel_rfl)
    (a76k1 i N p0 p2 p3 p4 s0 s1 s2 s3 s4 h) (a76k2 i N p0 p2 p3 p4 s0 s1 s2 s3 s4 h) (a76k3 i N p0 p2 p3 p4 s0 s1 s2 s3 s4 h) (a76k4 i N p0 p2 p3 p4 s0 s1 s2 s3 s4 h) (a76k2' i N p0 p2 p3 p4 s0 s1 s2 s3 s4 h) (a76k3' i N p0 p2 p3 p4 s0 s1 s2 s3 s4 h) (a76k4' i N p0 p2 p3 p4 s0 s1 s2 s3 s4 h) hat1 hd1 (fun a2 w2 hat2 hd2 => ?_) (fun a2 w2 hat2 hd2 => ?_))
  · -- all in one region
    have h7 : a2.eval (.tmp 7) = .bool false := by
      obtain ⟨G2, r2, _⟩ := hat2
      have := r2.slot 7
      rw [show (a76s5 i N p0 p2 p3 p4 s0 s1 s2 s3 s4 h true false).s 7 = .c (.v (.lit (.bool false))) from by kernel_rfl] at this
      exact RepA.litE this
    refine wpIn_cond_false h7 ?_
    have hB := a76B i N p0 p2 p3 p4 s0 s1 s2 s3 s4 h true
    rw [e1, Option.bind_some, Option.bind_some, e2, Option.bind_some] at hB
    dsimp only at hB
    rw [e3, Option.bind_some] at hB
    dsimp only at hB
    rw [show (Nat.beq 5 5 && Nat.ble (es.length + 1) maxApp) = true from by rw [Bool.and_eq_true, Nat.ble_eq]; exact ⟨rfl, hm⟩, cond_true, Option.bind_some, e4, Option.bind_some] at hB
    refine Code.wpIn_mono (fun e a' w' hq => ?_) (evC_ok (ro := none) (nn := 0) okE0 (noCall_ok _) _ 0 _ _ a2 w2 hB hat2 hd2)
    obtain ⟨hd', hq⟩ := hq
    have key : ∀ {st' : St} {G' : Gh}, finish E0 H76 Try.f76 h st' = some (.ret (.tup []), h.set j (cells.set (off + N.toNat * 2 + 1) (.own 5 (es ++ [[s0, s1, s2, s3, s4]])))) → RepSt d G' w' st' a'.tmps → Fr d G w G' w' → a'.defers = [] ∧ ∃ v, (results Try.f76 a'.tmps).run Try.prog w' = .ok v w' ∧ EndOk d G w (.ret (.tup [])) (h.set j (cells.set (off + N.toNat * 2 + 1) (.own 5 (es ++ [[s0, s1, s2, s3, s4]])))) (.returned v) w' := by
      intro st' G' h1 h2 h3
      obtain ⟨v, k1, ⟨G2, k2, k3, k4, k5⟩, k6⟩ := finish_ok okE0 hh h2 h3 h1
      exact ⟨hd', v, k1, G2, k2, k3, k4, k5⟩
    cases e with
    | normal => obtain ⟨st', G', h1, h2, h3, h4⟩ := hq; exact key h1 h2 h4
    | ret => obtain ⟨st', G', h1, h2, h3, h4⟩ := hq; exact key h1 h2 h4
    | exit i => obtain ⟨st', G', h1, _⟩ := hq; cases h1
    | panic ch => obtain ⟨x, v, G', h', _, h1, _⟩ := hq; cases h1
    | goto l => exact hq.elim
    | outgrown => exact hq.elim
  · -- the element laid behind
    have h7 : a2.eval (.tmp 7) = .bool true := by
      obtain ⟨G2, r2, _⟩ := hat2
      have := r2.slot 7
      rw [show (a76s5 i N p0 p2 p3 p4 s0 s1 s2 s3 s4 h false true).s 7 = .c (.v (.lit (.bool true))) from by kernel_rfl] at this
      exact RepA.litE this
    refine wpIn_cond_true h7 ?_
    have hA := a76A i N p0 p2 p3 p4 s0 s1 s2 s3 s4 h
    have e5 : lenA E0 24 (.sl 5 es) = some (es.length : Int) := by kernel_rfl
    rw [e1, Option.bind_some, e2, Option.bind_some] at hA
    dsimp only at hA
    rw [e3, Option.bind_some, e5, Option.bind_some] at hA
    refine wpIn_seq (draw_pre okE0 (noCall_ok _) 12 4 (by kernel_rfl) (behind_of (by kernel_rfl)) (fun st3 a3 G3 w3 hst r3 hnt3 hd3 hf3 => ?_) a76d hA hat2 hd2)
    have hst := Option.some.inj hst
    subst hst
    exact append_other (id := 3) (ops3 := a76o3) okE0 (o12 := a76oo a76o2 12) (o13 := a76oo a76o2 13) (o14 := a76oo a76o2 14) (o15 := a76oo a76o2 15) (q0 := a76oo a76o3 0) (q1 := a76oo a76o3 1) (TL := 27) (TN := 40) (TT := 24) (TE := 26) (fld := 1) (nL := 2) (n := 5) (fo := (1, ti24)) (iE := ti26) (iT := ti24)
      (by kernel_rfl) (by kernel_rfl) (by kernel_rfl) (by kernel_rfl) (by kernel_rfl) (by kernel_rfl) (by kernel_rfl) (by kernel_rfl) (by kernel_rfl) (by kernel_rfl) (by kernel_rfl) (by kernel_rfl) (by kernel_rfl) (by kernel_rfl) (by kernel_rfl) (by kernel_rfl)
      (by kernel_rfl) (by kernel_rfl) (by kernel_rfl) (by kernel_rfl) (by kernel_rfl) (by kernel_rfl) (by kernel_rfl) (by kernel_rfl) (by kernel_rfl)
      (by kernel_rfl) (by kernel_rfl) (by kernel_rfl) (by kernel_rfl) (by kernel_rfl)
      (by kernel_rfl) (by kernel_rfl) (by kernel_rfl) (by kernel_rfl) (by kernel_rfl) (by kernel_rfl) (by kernel_rfl) (by kernel_rfl) (by decide) (by kernel_rfl)
      hnt3 (by decide) r3 (j := j) (off := off) (len := len) (N := N) (es := es) (s := [s0, s1, s2, s3, s4]) (ph := [.lit (.int .i64 0), .lit (.int .i64 0), .lit (.string ⟨#[]⟩), .lit (.slice none 0 0), .lit (.slice none 0 0)]) (by kernel_rfl) (by kernel_rfl) hN0 hN (by kernel_rfl) (by kernel_rfl) rfl (by kernel_rfl) (by kernel_rfl) (by kernel_rfl) e4 hm (fun _ _ h => h)
      (fun a' w' G' k1 k2 k3 k4 => ⟨k4.trans hd3, _, hres _ _, G', hf3.trans k3, k1, k2, .tup .nil⟩)
end Go.Sh.T

namespace Go.Sh.T
open Go Go.Sh Go.Proofs
set_option maxRecDepth 100000
set_option linter.unusedVariables false
def growT_ren : Shelf.Ren := { f := fun x => match x with | 4 => 62 | n => n, t := fun x => match x with | 22 => 24 | 25 => 26 | 3 => 3 | 4 => 4 | 9 => 9 | 20 => 20 | 0 => 0 | n => n, g := fun n => n }
theorem growT : Lays8.n4 Try.prog growT_ren :=
  { mixed := by kernel_rfl,
    f4 := Exists.intro "slices.Grow[[]limbeck/api.Ty,limbeck/api.Ty]" ⟨by decide, Eq.trans Try.func62 (by kernel_rfl)⟩,
    t0 := Try.underlying0, a0 := Try.isAgg0, z0 := Try.sizeOf0, v0 := Try.zeroValue0, t3 := Try.underlying3, a3 := Try.isAgg3, z3 := Try.sizeOf3, v3 := Try.zeroValue3, t4 := Try.underlying4, a4 := Try.isAgg4, z4 := Try.sizeOf4,
    v4 := Try.zeroValue4, t9 := Try.underlying9, a9 := Try.isAgg9, z9 := Try.sizeOf9, v9 := Try.zeroValue9, t20 := Try.underlying20, a20 := Try.isAgg20, z20 := Try.sizeOf20, v20 := Try.zeroValue20, t22 := Try.underlying24,
    a22 := Try.isAgg24, z22 := Try.sizeOf24, v22 := Try.zeroValue24 }

theorem growN {d : Nat} {G : Gh} {w : World} {h : Heap} (hh : RepHeap G w h) (hw : Within G w) (n : Nat) (hn : n ≤ maxApp) : Calls Try.prog 62 #[.slice none 0 0, .int .i64 n] w (EndOk d G w (.own 5 []) h) := by
  have hn' : n ≤ 2147483648 := hn
  by_cases h0 : n = 0
  · subst h0
    refine (Any8.slices_Grow_room growT none 0 0 0 w (Nat.le_refl _) (by omega) (by omega) (by omega)).mono ?_
    rintro e w' ⟨rfl, rfl⟩
    exact ⟨G, Fr.refl _ _ _, hh, hw, 0, .inl ⟨rfl, rfl⟩⟩
  · obtain ⟨ti, z, e1, e2, e3, e4, e5, e6, e7, e8⟩ := tok26.info
    have e2 : ti.size = 5 := e2
    have e3 : ti.bytes = 80 := e3
    have hzs : z.cells.size = 5 := by
      have := congrArg List.length e5
      rw [Array.length_toList, List.length_map] at this
      rw [this]; rfl
    refine (Any8.slices_Grow_grow growT ti z e1 e4 (by omega) none 0 0 n [] w (Nat.le_refl _) (by omega) (by rw [e3]; omega) (by omega) (by simp) (fun _ => rfl) (fun a h => by cases h)).mono ?_
    rintro e w' ⟨rfl, rfl⟩
    have r : RepSt d G w { s := fun _ => .dead, h := h } #[undef] := ⟨fun _ => trivial, fun _ _ _ h => (by cases h), hh, hw⟩
    have hge := grownCap_ge w (0 + n) 0 26
    obtain ⟨hr, hf⟩ := new_own (t := 0) r.drew (by decide) rfl (n := 5) (cap := grownCap w (0 + n) 0 26) (es := []) (arr := (([] : List Value).toArray ++ Builtin.zeroCells z.cells (0 + n - 0) ++ Builtin.zeroCells z.cells (grownCap w (0 + n) 0 26 - (0 + n)))) 26
      (by
        rw [Array.size_append, Array.size_append, size_zeroCells, size_zeroCells, hzs]
        simp only [List.size_toArray, List.length_nil, Nat.sub_zero]
        rw [Nat.zero_add, ← Nat.add_mul]
        congr 1
        omega) (Nat.zero_le _) .nil (fun _ h => by cases h)
    refine ⟨_, fr_drew.trans hf, hr.heap, hr.within, 0, ?_⟩
    have := hr.slot 0
    exact this
end Go.Sh.T

namespace Go.Sh.T
open Go Go.Sh Go.Proofs
set_option maxRecDepth 100000
set_option linter.unusedVariables false
namespace CC
def pL : Code → Code
  | .seq a _ => a
  | .block _ c => c
  | .cond _ a _ => a
  | c => c
def pR : Code → Code
  | .seq _ b => b
  | .cond _ _ b => b
  | c => c
def opsOf : Code → Array Oper
  | .region _ ops _ => ops
  | _ => #[]
noncomputable def body : Code := Try.f30.body.getD .skip
noncomputable def A := pL body
noncomputable def B := pL (pR body)
noncomputable def C := pL (pR (pR body))
noncomputable def R9 := pL (pR (pR (pR body)))
noncomputable def D := pR (pR (pR (pR body)))
noncomputable def ops9 := opsOf R9
noncomputable def o9 (i : Nat) : Oper := ops9.getD i default
theorem body_eq : Try.f30.body = some (.seq A (.seq B (.seq C (.seq (.region 9 ops9 false) D)))) := by rfl
abbrev H30 : FHint := { tr := [31], keep := [(0, [0, 3, 9, 10, 11]), (2, [6, 25, 26, 27])] }
section
variable (xs ys : List (List AV)) (h : Heap)
abbrev arg (xs ys : List (List AV)) : AV := .sl 1 [[.sl 5 xs], [.sl 5 ys]]
def W1 (xs : List (List AV)) : Int := IntKind.i64.wrap (0 + ((xs.length : Nat) : Int))
def W2 (xs ys : List (List AV)) : Int := IntKind.i64.wrap (IntKind.i64.wrap (0 + ((xs.length : Nat) : Int)) + ((ys.length : Nat) : Int))
noncomputable def s0 : St := { s := lkS [(0, .c (.v (arg xs ys)))], h := h }
noncomputable def s1 : St := { s := lkS [(0, .c (.v (arg xs ys)))], h := h }
noncomputable def s2 : St := { s := lkS [(0, .c (.v (arg xs ys))), (3, .c (.v (.lit (.int .i64 0))))], h := h }
theorem kA : evC E0 H30 36 noCall 3 A 0 (s0 xs ys h) (kL [0]) kN = some ([(0, .c (.v (arg xs ys)))], h) := by kernel_rfl
theorem kB : evC E0 H30 36 noCall 3 B 0 (s1 xs ys h) (kL [0, 3]) kN = some ([(0, .c (.v (arg xs ys))), (3, .c (.v (.lit (.int .i64 0))))], h) := by kernel_rfl
theorem kC : evC E0 H30 36 noCall 3 C 0 (s2 xs ys h) (kL [0, 3]) kN = cond (decide (IntKind.i64.wrap (0 + ((xs.length : Nat) : Int)) < 0)) none (cond (decide (IntKind.i64.wrap (IntKind.i64.wrap (0 + ((xs.length : Nat) : Int)) + ((ys.length : Nat) : Int)) < 0)) none (some ([(0, .c (.v (arg xs ys))), (3, .c (.v (.lit (.int .i64 (IntKind.i64.wrap (IntKind.i64.wrap (0 + ((xs.length : Nat) : Int)) + ((ys.length : Nat) : Int)))))))], h))) := by kernel_rfl
noncomputable def s3 (n : Int) : St := { s := lkS [(0, .c (.v (arg xs ys))), (3, .c (.v (.lit (.int .i64 n))))], h := h }
noncomputable def s4 (n : Int) : St := { s := ups (s3 xs ys h n).s [(23, .c (.v (.lit (.int .i64 n))))], h := h, pb := fun _ => false }
theorem k9 (n : Int) : opsK E0 H30 36 noCall ops9 [(0, o9 0)] (s3 xs ys h n) kS kP = some (.inl (s4 xs ys h n)) := by kernel_rfl
noncomputable def s5 (n : Int) : St := { s := ups (s4 xs ys h n).s [(24, .c (.own 5 []))], h := h, pb := addPb (s4 xs ys h n).pb [(24, .c (.own 5 []))] }
noncomputable def s6 (n : Int) : St := { s := ups (s5 xs ys h n).s [(24, .dead), (6, .c (.own 5 []))], h := h, pb := fun _ => false }
theorem k9' (n : Int) : opsK E0 H30 36 noCall ops9 [(2, o9 2)] (s5 xs ys h n) kS kP = some (.inl (s6 xs ys h n)) := by kernel_rfl
theorem kD (n : Int) : evC E0 H30 36 noCall 3 D 0 (s6 xs ys h n) (fun e st' => match e with | .exit _ => none | _ => finish E0 H30 Try.f30 h st') kN = cond (Nat.ble (([] : List (List AV)).length + xs.length) maxApp) (cond (Nat.ble ((([] : List (List AV)) ++ xs).length + ys.length) maxApp) (some (.ret (.sl 5 ((([] : List (List AV)) ++ xs) ++ ys)), h)) none) none := by kernel_rfl
end
end CC
end Go.Sh.T

namespace Go.Sh.T
open Go Go.Sh Go.Proofs
set_option maxRecDepth 100000
set_option linter.unusedVariables false
open CC in
/-- slices.Concat of two. -/
theorem concat30 (xs ys : List (List AV)) (hm : xs.length + ys.length ≤ maxApp) (h : Heap) : Ends Try.prog 30 [.sl 1 [[.sl 5 xs], [.sl 5 ys]]] h (.ret (.sl 5 (xs ++ ys))) h := by
  have hm' : xs.length + ys.length ≤ 2147483648 := hm
  refine ⟨⟨Try.f30, Try.func30, by kernel_rfl, rfl⟩, fun d G w argv hr hh hw => ?_⟩
  refine calls_of_wp Try.func30 CC.body_eq ?_
  refine (wpIn_wide (n := 0)).1 ?_
  have hal : argv.size = 1 := by have := hr.length; simpa using this.symm
  have hat : AtSt d 36 G w (CC.s0 xs ys h) { tmps := argv ++ Array.replicate (Try.f30.ntmps - argv.size) undef, defers := [] } w := by
    refine ⟨G, ⟨fun k => ?_, fun u t off hu => ?_, hh, hw⟩, by simp [hal, Try.f30], Fr.refl d G w⟩
    · rcases lkS_spec [(0, .c (.v (CC.arg xs ys)))] k with e | e
      · show RepSlot _ _ _ _ (lkS _ _) _
        rw [e]; trivial
      · refine argSlots_spec [CC.arg xs ys] 0 argv.toList hr (fun m x hm => ?_) _ e
        have hj' : m < argv.size := by simpa using (List.getElem?_eq_some_iff.1 hm).1
        rw [Nat.zero_add, Array.getD_eq_getD_getElem?, Array.getElem?_append_left hj', ← Array.getElem?_toList, hm]; rfl
    · exfalso
      have hu : lkS [(0, .c (.v (CC.arg xs ys)))] u = .path t off := hu
      rcases lkS_spec [(0, .c (.v (CC.arg xs ys)))] u with e | e
      · rw [e] at hu; cases hu
      · rw [hu] at e; simp at e
  have w0 : IntKind.i64.wrap (0 + ((xs.length : Nat) : Int)) = xs.length := by rw [IntKind.wrap_i64]; omega
  have w2 : IntKind.i64.wrap (IntKind.i64.wrap (0 + ((xs.length : Nat) : Int)) + ((ys.length : Nat) : Int)) = ((xs.length + ys.length : Nat) : Int) := by rw [w0, IntKind.wrap_i64]; omega
  have hC := CC.kC xs ys h
  rw [w2, w0, show decide (((xs.length : Nat) : Int) < 0) = false from decide_eq_false (by omega), show decide (((xs.length + ys.length : Nat) : Int) < 0) = false from decide_eq_false (by omega), cond_false, cond_false] at hC
  have hD := CC.kD xs ys h ((xs.length + ys.length : Nat) : Int)
  rw [show Nat.ble (([] : List (List AV)).length + xs.length) maxApp = true from by rw [Nat.ble_eq, List.length_nil]; omega, show Nat.ble ((([] : List (List AV)) ++ xs).length + ys.length) maxApp = true from by rw [Nat.ble_eq, List.nil_append]; exact hm, cond_true, cond_true, List.nil_append] at hD
  refine wpIn_seq (seg_keep (ro := none) (nn := 0) okE0 (noCall_ok _) _ (CC.kA xs ys h) hat rfl fun a1 w1 hat1 hd1 => ?_)
  refine wpIn_seq (seg_keep (ro := none) (nn := 0) okE0 (noCall_ok _) _ (CC.kB xs ys h) hat1 hd1 fun a2 w2' hat2 hd2 => ?_)
  refine wpIn_seq (seg_keep (ro := none) (nn := 0) okE0 (noCall_ok _) _ hC hat2 hd2 fun a3 w3 hat3 hd3 => ?_)
  obtain ⟨G3, r3, n3, f3⟩ := hat3
  refine wpIn_seq (wpIn_region ?_)
  rw [show List.range CC.ops9.size = [(0, CC.o9 0)].map Prod.fst ++ [1, 2] from by rfl]
  refine ops_pre (ro := none) (nn := 0) (D := []) okE0 (noCall_ok _) (fun a4 G4 w4 r4 n4 d4 f4 => ?_) [(0, CC.o9 0)] (CC.s3 xs ys h ((xs.length + ys.length : Nat) : Int)) a3 G3 w3 (fun p hp => by simp at hp; subst hp; rfl) (CC.k9 xs ys h _) r3 n3 hd3 f3
  rw [wpOpsIn_cons]
  -- the call of Grow
  have h23 : a4.eval (.tmp 23) = .int .i64 ((xs.length + ys.length : Nat) : Int) := by
    have := r4.slot 23
    rw [show (CC.s4 xs ys h ((xs.length + ys.length : Nat) : Int)).s 23 = .c (.v (.lit (.int .i64 ((xs.length + ys.length : Nat) : Int)))) from by kernel_rfl] at this
    exact RepA.litE this
  have hrun : (execOp a4.eval (CC.o9 1)).run Try.prog w4 = .ok (.enter 62 #[.slice none 0 0, .int .i64 ((xs.length + ys.length : Nat) : Int)]) w4 := by
    have := run_call (a := a4) (w := w4) (o := CC.o9 1) Try.prog (c := { callee := .value (.func 62), args := #[.const (.slice none 0 0), .tmp 23], argTypes := #[24, 3] }) (x := .func 62) (by rfl) rfl (f := 62) (fv := #[]) (cv := #[]) rfl ⟨Try.f62, Try.func62, by kernel_rfl, rfl⟩
    rw [this]
    have he : a4.eval (.const (.slice none 0 0)) = .slice none 0 0 := rfl
    simp [h23, he]
  have hcl := growN (d := d + 1) r4.heap r4.within (xs.length + ys.length) hm
  unfold wpOpIn
  rw [show CC.ops9[1]? = some (CC.o9 1) from by rfl]
  simp only [Region.wanted, show (CC.o9 1).guard = none from by rfl, if_true]
  refine wp_in none (fun c h => by rw [show (CC.o9 1).op = .call { callee := .value (.func 62), args := #[.const (.slice none 0 0), .tmp 23], argTypes := #[24, 3] } from by rfl] at h; cases h) ?_
  refine call_own (E := E0) r4 (fun t e => by rw [show (CC.o9 1).dst = some 24 from by rfl] at e; cases e; rw [n4]; decide) (by rfl) hrun hcl _ _ fun G5 w5 v r5 f5 => ?_
  have n5 : (a4.put (CC.o9 1).dst v).tmps.size = 36 := by rw [put_tmps, putT_size, n4]
  have d5 : (a4.put (CC.o9 1).dst v).defers = [] := (put_defers _ _ _).trans d4
  rw [← put_tmps] at r5
  show wpOpsIn _ _ _ _ _ ([(2, CC.o9 2)].map Prod.fst ++ []) _ _
  refine ops_pre (ro := none) (nn := 0) (D := []) okE0 (noCall_ok _) (fun a6 G6 w6 r6 n6 d6 f6 => ?_) [(2, CC.o9 2)] (CC.s5 xs ys h ((xs.length + ys.length : Nat) : Int)) _ G5 w5 (fun p hp => by simp at hp; subst hp; rfl) (CC.k9' xs ys h _) r5 n5 d5 (f4.trans f5)
  show CC.D.wpIn _ _ _ _ a6 w6
  refine Code.wpIn_mono (fun e a' w' hq => ?_) (evC_ok (ro := none) (nn := 0) okE0 (noCall_ok _) _ 0 _ _ a6 w6 hD ⟨G6, r6, n6, f6⟩ d6)
  obtain ⟨hd', hq⟩ := hq
  have key : ∀ {st' : St} {G' : Gh}, finish E0 CC.H30 Try.f30 h st' = some (.ret (.sl 5 (xs ++ ys)), h) → RepSt d G' w' st' a'.tmps → Fr d G w G' w' → a'.defers = [] ∧ ∃ v, (results Try.f30 a'.tmps).run Try.prog w' = .ok v w' ∧ EndOk d G w (.ret (.sl 5 (xs ++ ys))) h (.returned v) w' := by
    intro st' G' h1 h2 h3
    obtain ⟨v, k1, ⟨G2, k2, k3, k4, k5⟩, k6⟩ := finish_ok okE0 hh h2 h3 h1
    exact ⟨hd', v, k1, G2, k2, k3, k4, k5⟩
  cases e with
  | normal => obtain ⟨st', G', h1, h2, h3, h4⟩ := hq; exact key h1 h2 h4
  | ret => obtain ⟨st', G', h1, h2, h3, h4⟩ := hq; exact key h1 h2 h4
  | exit i => obtain ⟨st', G', h1, _⟩ := hq; cases h1
  | panic ch => obtain ⟨x, v, G', h', _, h1, _⟩ := hq; cases h1
  | goto l => exact hq.elim
  | outgrown => exact hq.elim
end Go.Sh.T

/- cast.Do: what panics within is recovered, by its shadow. -/
namespace Go.Sh.T
set_option maxRecDepth 100000
set_option linter.unusedVariables false
set_option linter.unusedSimpArgs false
open Go Go.Sh Go.Proofs

namespace CD
def pL : Code → Code
  | .seq a _ => a
  | .block _ c => c
  | .cond _ a _ => a
  | c => c
def pR : Code → Code
  | .seq _ b => b
  | .cond _ _ b => b
  | c => c
def opsOf : Code → Array Oper
  | .region _ ops _ => ops
  | _ => #[]
noncomputable def body : Code := Try.f25.body.getD .skip
noncomputable def A := pL body
noncomputable def R1 := pL (pR body)
noncomputable def R2 := pL (pR (pR body))
noncomputable def ops2 := opsOf R2
noncomputable def o7 : Oper := ops2.getD 1 default
noncomputable def pre2 := (indexed ops2).take 1
noncomputable def C3 := pL (pR (pR (pR body)))
noncomputable def bod7 : Code := Try.f45.body.getD .skip
noncomputable def K0 := pL bod7
noncomputable def B0 := pL (pR bod7)
noncomputable def K3 := pL B0
noncomputable def K5 := pL (pR (pR B0))
noncomputable def T := pL (pR (pR (pR B0)))
abbrev H25 : FHint := { hb := [2], hp := [2], pans := [5] }
abbrev H45 : FHint := { hp := [0] }
abbrev hpS (i : Nat) : Slot := .c (.v (.hp i 0))

/-- The deferred function's work where the panic is the one that is meant. -/
noncomputable def caught (h : Heap) (lA : List (Nat × Slot)) (st : St) (cs : List AV) (h3 : Heap) : R :=
  (hpOf (lkS lA 2)).bind fun i => (hpOf (st.s 2)).bind fun i' =>
  evC E0 H45 Try.f45.ntmps noCall 0 T 0 { s := lkS [(0, hpS i), (9, .c (.v (.agg cs)))], h := h3 } (fun e st' => match e with
    | .normal => finish E0 H25 Try.f25 h { s := lkS [(2, hpS i')], h := st'.h }
    | _ => none) kN

noncomputable def start (args : List AV) (h : Heap) : Option (List (Nat × Slot) × St) :=
  (evC E0 H25 Try.f25.ntmps noCall 0 A 0 { s := lkS (argSlots 0 args), h := h } (kL [0, 2]) kN).bind fun p =>
  (opsK E0 H25 Try.f25.ntmps noCall ops2 pre2 { s := upd (lkS p.1) 3 .dead, h := p.2 } kS kP).bind fun r => match r with
    | .inl st => some (p.1, st)
    | .inr _ => none
noncomputable def after (h : Heap) (q : List (Nat × Slot) × St) : SR → R
  | .inl st3 => (evC E0 H25 Try.f25.ntmps noCall 0 C3 0 st3 (kL [2]) kN).bind fun p => finish E0 H25 Try.f25 h { s := lkS p.1, h := p.2 }
  | .inr (.ifc t (.agg cs), h3) => bif Nat.beq t 73 then caught h q.1 q.2 cs h3 else none
  | .inr _ => none
end CD
noncomputable def p25 : (Nat → List AV → Heap → R) → List AV → Heap → R := fun call args h => bif Nat.ble args.length Try.f25.ntmps then
  (CD.start args h).bind fun q => (stepD E0 CD.H25 Try.f25.ntmps call CD.ops2 1 CD.o7 q.2).bind (CD.after h q) else none

namespace CD
theorem body_eq : Try.f25.body = some (.seq A (.seq (.region 1 (opsOf R1) false) (.seq (.region 2 ops2 false) (.seq C3 .ret)))) := by rfl
theorem bod7_eq : Try.f45.body = some (.seq (.region 0 (opsOf K0) false) (.block 0 (.seq (.region 3 (opsOf K3) false) (.cond (.tmp 6) (.region 4 (opsOf (pL (pR B0))) false) (pR (pR B0)))))) := by rfl
end CD
end Go.Sh.T

namespace Go.Sh.T.CD
open Go Go.Sh Go.Proofs
set_option maxRecDepth 100000

theorem wpOps_val {P : Program} {ops : Array Oper} {Q : Exit → Act → World → Prop} {i : Nat} {rest : List Nat} {o : Oper} {a : Act} {w : World} {v : Value} (hi : ops[i]? = some o) (hg : o.guard = none) (hr : (execOp a.eval o).run P w = .ok (.value v) w) (h : wpOps P ops Q rest (a.put o.dst v) w) : wpOps P ops Q (i :: rest) a w := by
  unfold wpOps
  rw [hi]
  simp only [Region.wanted, hg, if_true]
  refine .inl ?_
  unfold Oper.wp
  rw [hr, Oper.upon_value]; exact h

noncomputable def ok3 : Oper := (opsOf K3).getD 0 default
noncomputable def ok5 (i : Nat) : Oper := (opsOf K5).getD i default
theorem eqF (v : Value) (w : World) : (binOp .eql 20 (.iface 73 v) .nilIface).run Try.prog w = .ok (.bool false) w := by kernel_rfl
theorem eqN (w : World) : (binOp .eql 20 .nilIface .nilIface).run Try.prog w = .ok (.bool true) w := by kernel_rfl
theorem ta (v : Value) (w : World) : (Instr.typeAssert (.iface 73 v) 20 73 true).run Try.prog w = .ok (.tuple #[v, .bool true]) w := by kernel_rfl
theorem run3F (a : Act) (v : Value) (w : World) (h : a.eval (.tmp 4) = .iface 73 v) : (execOp a.eval ok3).run Try.prog w = .ok (.value (.bool false)) w := by
  have ho : ok3.op = .binOp .eql 20 (.tmp 4) (.const .nilIface) 20 := by rfl
  unfold execOp
  rw [ho]
  have hy : a.eval (.const .nilIface) = .nilIface := rfl
  simp only [h, hy, Sem.run_bind]
  have h1 : (eqGuard .eql 20 (.tmp 4) (.const .nilIface) (.iface 73 v) .nilIface).run Try.prog w = .ok () w := by simp [eqGuard]
  rw [h1]
  simp [eqF]
theorem run3N (a : Act) (w : World) (h : a.eval (.tmp 4) = .nilIface) : (execOp a.eval ok3).run Try.prog w = .ok (.value (.bool true)) w := by
  have ho : ok3.op = .binOp .eql 20 (.tmp 4) (.const .nilIface) 20 := by rfl
  unfold execOp
  rw [ho]
  have hy : a.eval (.const .nilIface) = .nilIface := rfl
  simp only [h, hy, Sem.run_bind]
  have h1 : (eqGuard .eql 20 (.tmp 4) (.const .nilIface) .nilIface .nilIface).run Try.prog w = .ok () w := by simp [eqGuard]
  rw [h1]
  simp [eqN]
theorem run5 (a : Act) (v : Value) (w : World) (h : a.eval (.tmp 4) = .iface 73 v) : (execOp a.eval (ok5 0)).run Try.prog w = .ok (.value (.tuple #[v, .bool true])) w := by
  have ho : (ok5 0).op = .typeAssert (.tmp 4) 20 73 true := by rfl
  unfold execOp
  rw [ho]
  simp only [h, Sem.run_bind, ta]
  rfl
theorem run5x (a : Act) (v y : Value) (w : World) (h : a.eval (.tmp 7) = .tuple #[v, y]) : (execOp a.eval (ok5 1)).run Try.prog w = .ok (.value y) w ∧ (execOp a.eval (ok5 2)).run Try.prog w = .ok (.value v) w := by
  have ho : (ok5 1).op = .extract (.tmp 7) 1 := by rfl
  have ho2 : (ok5 2).op = .extract (.tmp 7) 0 := by rfl
  unfold execOp
  rw [ho, ho2]
  simp only [h]
  exact ⟨rfl, rfl⟩

noncomputable def ok0 : Oper := (opsOf K0).getD 0 default
noncomputable def ok4 : Oper := (opsOf (pL (pR B0))).getD 0 default
theorem run0 (a : Act) (w : World) : (execOp a.eval ok0).run Try.prog w = .ok .recover w := by
  have ho : ok0.op = .call { callee := .builtin .recover, args := #[], argTypes := #[] } := by rfl
  unfold execOp
  rw [ho]
  rfl
theorem run4 (a : Act) (w : World) : (execOp a.eval ok4).run Try.prog w = .ok (.value (a.eval (.tmp 4))) w := by
  have ho : ok4.op = .assign (.tmp 4) := by rfl
  unfold execOp
  rw [ho]
  rfl
theorem res45 (tmps : Array Value) (w : World) : (results Try.f45 tmps).run Try.prog w = .ok (.tuple #[]) w := by
  unfold results
  rw [show Try.f45.results = #[] from rfl]
  simp

/-- The recovering region: nothing panics; a panic. -/
theorem wpS_recN {P : Program} {id : Nat} {ops : Array Oper} {o : Oper} {Q : Exit → Act → List Frame → World → Prop} {a : Act} {cs : List Frame} {w : World} (h1 : ops.size = 1) (h0 : ops[0]? = some o) (hg : o.guard = none) (hr : (execOp a.eval o).run P w = .ok .recover w) (hn : recoverD cs = none)
    (h : Q .normal (a.put o.dst .nilIface) cs w) : (Code.region id ops false).wpS P Q a cs w := by
  apply wpS_region
  rw [h1, show List.range 1 = [0] from rfl]
  unfold wpOpsS
  rw [h0]
  simp only [Region.wanted, hg, if_true]
  rw [hr]
  simp only [hn]
  exact h
theorem wpS_recS {P : Program} {id : Nat} {ops : Array Oper} {o : Oper} {Q : Exit → Act → List Frame → World → Prop} {a : Act} {cs cs' : List Frame} {v : Value} {w : World} (h1 : ops.size = 1) (h0 : ops[0]? = some o) (hg : o.guard = none) (hr : (execOp a.eval o).run P w = .ok .recover w) (hn : recoverD cs = some (v, cs'))
    (h : Q .normal (a.put o.dst v) cs' w) : (Code.region id ops false).wpS P Q a cs w := by
  apply wpS_region
  rw [h1, show List.range 1 = [0] from rfl]
  unfold wpOpsS
  rw [h0]
  simp only [Region.wanted, hg, if_true]
  rw [hr]
  simp only [hn]
  exact h

theorem idle (p : Value) (w : World) : CallsD Try.prog 45 #[p] .returning w fun e u' w' => (∃ v, e = .returned v) ∧ u' = .returning ∧ w' = w := by
  refine callsD_of_wpS Try.func45 bod7_eq fun c₀ cs hu => ?_
  have hrec : recoverD (c₀ :: cs) = none := by simp [recoverD, hu]
  refine wpS_seq (wpS_recN (o := ok0) rfl (by rfl) (by rfl) (run0 _ _) hrec ?_)
  show (Code.block 0 _).wpS _ _ _ _ _
  refine wpS_of_wp (wp_block (wp_seq (wp_region ?_)))
  rw [show List.range (opsOf K3).size = [0] from rfl]
  refine wpOps_val (o := ok3) (by rfl) (by rfl) (run3N _ w (by kernel_rfl)) ?_
  show (Code.cond _ _ _).wp _ _ _ _
  refine wp_cond_true (by kernel_rfl) (wp_region ?_)
  rw [show List.range (opsOf (pL (pR B0))).size = [0] from rfl]
  refine wpOps_val (o := ok4) (by rfl) (by rfl) (run4 _ w) ?_
  refine ⟨rfl, .returning, ?_, .tuple #[], res45 _ w, ⟨_, rfl⟩, rfl, rfl⟩
  rw [← hu]

theorem catching {d : Nat} {G : Gh} {w : World} {arr : Array Value} {cs : List AV} {i : Nat} {p : Value} {h3 h4 : Heap} {l : List (Nat × Slot)} (hp : RepA G.S w G.μ (.hp i 0) p)
    (ha : RepA G.S w G.μ (.agg cs) (.agg arr)) (hh : RepHeap G w h3) (hw : Within G w) (hT : evC E0 H45 Try.f45.ntmps noCall 0 T 0 { s := lkS [(0, hpS i), (9, .c (.v (.agg cs)))], h := h3 } (kL []) kN = some (l, h4)) :
    CallsD Try.prog 45 #[p] (.panicking [{ v := .iface 73 (.agg arr), recovered := false }]) w fun e u' w' => (∃ v, e = .returned v) ∧ u' = .panicking [{ v := .iface 73 (.agg arr), recovered := true }] ∧ ∃ G', Fr d G w G' w' ∧ RepHeap G' w' h4 ∧ Within G' w' := by
  refine callsD_of_wpS Try.func45 bod7_eq fun c₀ fs hu => ?_
  have hrec : recoverD (c₀ :: fs) = some (.iface 73 (.agg arr), { c₀ with mode := .panicking [{ v := .iface 73 (.agg arr), recovered := true }] } :: fs) := by simp [recoverD, hu]
  refine wpS_seq (wpS_recS (o := ok0) rfl (by rfl) (by rfl) (run0 _ _) hrec ?_)
  show (Code.block 0 _).wpS _ _ _ _ _
  refine wpS_of_wp (wp_block (wp_seq (wp_region ?_)))
  rw [show List.range (opsOf K3).size = [0] from rfl]
  refine wpOps_val (o := ok3) (by rfl) (by rfl) (run3F _ (.agg arr) w (by kernel_rfl)) ?_
  show (Code.cond _ _ _).wp _ _ _ _
  refine wp_cond_false (by kernel_rfl) ?_
  show (Code.seq (.region 5 (opsOf K5) false) (.cond (.tmp 8) T _)).wp _ _ _ _
  refine wp_seq (wp_region ?_)
  rw [show List.range (opsOf K5).size = [0, 1, 2] from rfl]
  refine wpOps_val (o := ok5 0) (by rfl) (by rfl) (run5 _ (.agg arr) w (by kernel_rfl)) ?_
  refine wpOps_val (o := ok5 1) (by rfl) (by rfl) (run5x _ (.agg arr) (.bool true) w (by kernel_rfl)).1 ?_
  refine wpOps_val (o := ok5 2) (by rfl) (by rfl) (run5x _ (.agg arr) (.bool true) w (by kernel_rfl)).2 ?_
  show (Code.cond _ _ _).wp _ _ _ _
  refine wp_cond_true (by kernel_rfl) ?_
  generalize hact : Act.put _ (ok5 2).dst _ = act
  have htm : act.tmps = #[p, undef, undef, undef, .iface 73 (.agg arr), undef, .bool false, .tuple #[.agg arr, .bool true], .bool true, .agg arr] := by rw [← hact]; kernel_rfl
  have hdf : act.defers = [] := by rw [← hact]; kernel_rfl
  have hat : AtSt d Try.f45.ntmps G w { s := lkS [(0, hpS i), (9, .c (.v (.agg cs)))], h := h3 } act w := by
    refine ⟨G, ⟨fun x => ?_, fun u t off hu => ?_, hh, hw⟩, by rw [htm]; rfl, Fr.refl _ _ _⟩
    · rw [htm]
      rcases lkS_spec [(0, hpS i), (9, Slot.c (.v (.agg cs)))] x with e | e
      · show RepSlot _ _ _ _ (lkS _ _) _
        rw [e]; trivial
      · show RepSlot _ _ _ _ (lkS _ _) _
        have e' := e
        simp only [List.mem_cons, Prod.mk.injEq, List.not_mem_nil, or_false] at e'
        rcases e' with ⟨rfl, h2⟩ | ⟨rfl, h2⟩
        · rw [h2]; exact hp
        · rw [h2]; exact ha
    · exfalso
      have hu : lkS [(0, hpS i), (9, Slot.c (.v (.agg cs)))] u = .path t off := hu
      rcases lkS_spec [(0, hpS i), (9, Slot.c (.v (.agg cs)))] u with e | e
      · rw [e] at hu; cases hu
      · rw [hu] at e; simp at e
  refine (wpIn_wide (n := 0)).1 (seg_keep (ro := none) (nn := 0) okE0 (noCall_ok _) [] hT hat hdf fun a' w' hat' hd' => ?_)
  obtain ⟨G', r', n', f'⟩ := hat'
  refine ⟨hd', _, rfl, .tuple #[], res45 _ w', ⟨_, rfl⟩, rfl, G', f', r'.heap, r'.within⟩

noncomputable def m0 : Oper := (opsOf R1).getD 0 default
noncomputable def m1 : Oper := (opsOf R1).getD 1 default
theorem runM0 (a : Act) (w : World) : (execOp a.eval m0).run Try.prog w = .ok (.value (.func (.func 45) #[] #[a.eval (.tmp 2)])) w := by
  have ho : m0.op = .makeFunc (.func 45) #[] #[.tmp 2] := by rfl
  unfold execOp
  rw [ho]
  have hmf : ∀ (fn : Fn) (first cap : Array Value) (w : World), (Instr.makeFunc fn first cap).run Try.prog w = .ok (.func fn first cap) w := fun _ _ _ _ => rfl
  simp [hmf]
theorem runM1 (a : Act) (w : World) (cap : Array Value) (h : a.eval (.tmp 3) = .func (.func 45) #[] cap) : (execOp a.eval m1).run Try.prog w = .ok (.defer { target := .fn (.func 45) cap, args := #[] }) w := by
  have ho : m1.op = .defer { callee := .value (.tmp 3), args := #[], argTypes := #[] } := by rfl
  unfold execOp
  rw [ho]
  simp [resolve, h, Deferred.ofValue]
theorem callable45 : Callable Try.prog 45 := ⟨Try.f45, Try.func45, by kernel_rfl, rfl⟩
theorem invoke45 (p : Value) (w : World) : (invoke (.fn (.func 45) #[p]) #[]).run Try.prog w = .ok (.enter 45 #[p]) w := by
  unfold invoke
  exact (by simp : (callFunc 45 (#[] ++ #[p])).run Try.prog w = (callFunc 45 #[p]).run Try.prog w).trans (run_callFunc (w := w) callable45 #[p])


theorem putT_none (t : Array Value) (v : Value) : putT t none v = t := rfl

theorem do_ends (call : Nat → List AV → Heap → R) (hs : SoundC Try.prog call) (args : List AV) (h : Heap) (out : Out) (h' : Heap) (e : p25 call args h = some (out, h')) : Ends Try.prog 25 args h out h' := by
  refine ⟨⟨Try.f25, Try.func25, by kernel_rfl, rfl⟩, fun d G w argv hr hh hw => ?_⟩
  unfold p25 at e
  obtain ⟨hle, e⟩ := condE e
  have hle := bleE hle
  rw [Option.bind_eq_some_iff] at e; obtain ⟨⟨lA', st2⟩, hst, e⟩ := e
  rw [Option.bind_eq_some_iff] at e; obtain ⟨sr, hsr, e⟩ := e
  unfold start at hst
  rw [Option.bind_eq_some_iff] at hst; obtain ⟨⟨lA, hA⟩, kA, hst⟩ := hst
  rw [Option.bind_eq_some_iff] at hst; obtain ⟨r2, kB, hst⟩ := hst
  cases r2 with
  | inr x => cases hst
  | inl st2' =>
  have hst := Option.some.inj hst; cases hst
  refine calls_of_wp_defers Try.func25 body_eq ((wpIn_wide (n := 0)).1 ?_)
  have hal : argv.size = args.length := by simpa using hr.length.symm
  have hat : AtSt d Try.f25.ntmps G w { s := lkS (argSlots 0 args), h := h } { tmps := argv ++ Array.replicate (Try.f25.ntmps - argv.size) undef, defers := [] } w := by
    refine ⟨G, ⟨fun i => ?_, fun u t off hu => ?_, hh, hw⟩, by rw [Array.size_append, Array.size_replicate]; omega, Fr.refl d G w⟩
    · rcases lkS_spec (argSlots 0 args) i with e | e
      · show RepSlot _ _ _ _ (lkS _ _) _
        rw [e]; trivial
      · refine argSlots_spec args 0 argv.toList hr (fun j x hj => ?_) _ e
        have hj' : j < argv.size := by simpa using (List.getElem?_eq_some_iff.1 hj).1
        rw [Nat.zero_add, Array.getD_eq_getD_getElem?, Array.getElem?_append_left hj', ← Array.getElem?_toList, hj]; rfl
    · exfalso
      have hu : lkS (argSlots 0 args) u = .path t off := hu
      have hno : ∀ (l : List AV) (k : Nat) (q : Nat × Slot), q ∈ argSlots k l → ∃ x, q.2 = .c (.v x) := by
        intro l
        induction l with
        | nil => intro k q hq; cases hq
        | cons x l ih =>
          intro k q hq
          rcases List.mem_cons.1 hq with e | e
          · exact ⟨x, by rw [e]⟩
          · exact ih _ q e
      rcases lkS_spec (argSlots 0 args) u with e | e
      · rw [e] at hu; cases hu
      · rw [hu] at e; obtain ⟨x, hx⟩ := hno _ _ _ e; cases hx
  refine wpIn_seq (seg_keep (ro := none) (nn := 0) okE0 (noCall_ok _) _ kA hat rfl fun a1 w1 hat1 hd1 => ?_)
  obtain ⟨G1, r1, n1, f1⟩ := hat1
  refine wpIn_seq (wpIn_region ?_)
  rw [show List.range (opsOf R1).size = [0, 1] from rfl, wpOpsIn_cons]
  -- the closure is made
  unfold wpOpIn
  rw [show (opsOf R1)[0]? = some m0 from by rfl]
  simp only [Region.wanted, show m0.guard = none from by rfl, if_true]
  refine wp_in none (fun c h => by rw [show m0.op = .makeFunc (.func 45) #[] #[.tmp 2] from by rfl] at h; cases h) ?_
  unfold Oper.wp
  rw [runM0, Oper.upon_value]
  -- it is deferred
  rw [wpOpsIn_cons]
  unfold wpOpIn
  rw [show (opsOf R1)[1]? = some m1 from by rfl]
  simp only [Region.wanted, show m1.guard = none from by rfl, if_true]
  refine ⟨fun _ _ => trivial, ?_⟩
  show m1.uponIn _ _ _ _ _ _ ((Oper.semAt none _ m1).run Try.prog w1)
  rw [Oper.semAt_none]
  have h3c : (a1.put m0.dst (.func (.func 45) #[] #[a1.eval (.tmp 2)])).eval (.tmp 3) = .func (.func 45) #[] #[a1.eval (.tmp 2)] := by
    show (a1.put (some 3) _).tmps.getD 3 undef = _
    rw [put_tmps]
    show (a1.tmps.setIfInBounds 3 _).getD 3 undef = _
    rw [getD_put _ _ _ _ (by rw [n1]; decide), if_pos rfl]
  rw [runM1 _ _ _ h3c, Oper.uponIn_defer]
  generalize hD : ({ target := .fn (.func 45) #[a1.eval (.tmp 2)], args := #[] } : Deferred) = D at *
  generalize hact : Act.put _ m1.dst _ = a2
  have ht2 : a2.tmps = a1.tmps.setIfInBounds 3 (.func (.func 45) #[] #[a1.eval (.tmp 2)]) := by
    rw [← hact, put_tmps, show m1.dst = none from by rfl, putT_none]
    show (a1.put m0.dst _).tmps = _
    rw [put_tmps, show m0.dst = some 3 from by rfl]; rfl
  have hd2 : a2.defers = [D] := by
    rw [← hact, put_defers]
    show D :: (a1.put m0.dst _).defers = _
    rw [put_defers, hd1]
  have r2 : RepSt d G1 w1 { s := upd (lkS lA) 3 .dead, h := hA } a2.tmps := by
    rw [ht2]
    exact r1.next (Ext.refl _ _ _) (some 3) _ (fun _ e => by cases e; rw [n1]; decide) rfl [(3, .dead)] hA (fun _ e => by cases e; simp) (fun t' s hm => by
      simp only [List.mem_cons, Prod.mk.injEq, List.not_mem_nil, or_false] at hm
      obtain ⟨rfl, rfl⟩ := hm
      trivial) (fun _ _ _ hm => by simp at hm) (fun _ _ _ _ _ => ⟨rfl, rfl, rfl⟩) r1.heap r1.within
  have n2 : a2.tmps.size = Try.f25.ntmps := by rw [ht2]; simpa using n1
  clear hact
  show (Code.seq (.region 2 ops2 false) (.seq C3 .ret)).wpIn _ _ _ _ a2 w1
  refine wpIn_seq (wpIn_region ?_)
  rw [show List.range ops2.size = pre2.map Prod.fst ++ [1] from by rfl]
  have hmem : ∀ p ∈ indexed ops2, ops2[p.1]? = some p.2 := (indexed_spec ops2).2
  refine ops_pre (ro := none) (nn := 0) (D := [D]) okE0 (noCall_ok _) (fun a3 G3 w3 r3 n3 d3 f3 => ?_) pre2 _ a2 G1 w1 (fun p hp => hmem p (List.mem_of_mem_take hp)) kB r2 n2 hd2 (Fr.refl _ _ _)
  rw [wpOpsIn_cons]
  have hstep := step_ok (ro := none) (nn := 0) (E := E0) okE0 hs (show ops2[1]? = some o7 from by rfl) n3 r3 hsr
  cases sr with
  | inl st3 =>
    unfold after at e
    have e : (evC E0 H25 Try.f25.ntmps noCall 0 C3 0 st3 (kL [2]) kN).bind (fun p => finish E0 H25 Try.f25 h { s := lkS p.1, h := p.2 }) = some (out, h') := e
    rw [Option.bind_eq_some_iff] at e; obtain ⟨⟨l5, h5⟩, kC, e⟩ := e
    refine hstep.1 st3 rfl _ _ fun a4 G4 w4 r4 n4 d4 f4 => ?_
    show (Code.seq C3 .ret).wpIn _ _ _ _ a4 w4
    refine wpIn_seq (seg_keep (ro := none) (nn := 0) okE0 (noCall_ok _) _ kC ⟨G4, r4, n4, (f1.trans f3).trans f4⟩ (d4.trans d3) fun a5 w5 hat5 d5 => ?_)
    obtain ⟨G5, r5, n5, f5⟩ := hat5
    show Code.ret.wpIn _ _ _ _ a5 w5
    refine wpIn_ret ?_
    show Leaves Try.prog Try.f25 a5.tmps _ a5.defers .returning w5
    rw [d5, ← hD]
    refine leaves_cons (by intro h; cases h) (invoke45 _ _) ((idle _ w5).mono ?_)
    rintro e' u' w' ⟨⟨v, rfl⟩, rfl, rfl⟩
    obtain ⟨v, k1, ⟨G6, k2, k3, k4, k5⟩, k6⟩ := finish_ok okE0 hh r5 f5 e
    refine ⟨v, k1, G6, k2, k3, k4, ?_⟩
    cases out with
    | ret a => exact k5
    | own n es => exact k5
    | pan a => exact absurd rfl (k6 a)
  | inr x =>
    obtain ⟨x, h3⟩ := x
    refine (hstep.2 x h3 rfl).2 _ _ fun G4 w4 v rv rh rw' f4 => ?_
    show Leaves Try.prog Try.f25 a3.tmps _ a3.defers (.panicking [{ v, recovered := false }]) w4
    unfold after at e
    split at e
    · rename_i heq; cases heq
    · rename_i t cs h3' heq
      cases heq
      obtain ⟨ht, e2⟩ := condE e
      clear e
      have ht := beqE ht; subst ht
      unfold caught at e2
      rw [Option.bind_eq_some_iff] at e2; obtain ⟨i, hi, e2⟩ := e2
      rw [Option.bind_eq_some_iff] at e2; obtain ⟨i', hi', e2⟩ := e2
      rw [evC_bind, Option.bind_eq_some_iff] at e2; obtain ⟨rT, kT', e2⟩ := e2
      rcases rT with ⟨ex, stT⟩ | pT
      · cases ex with
        | exit i => cases e2
        | ret => cases e2
        | normal =>
        obtain ⟨h4, hh4⟩ : ∃ h4, h4 = stT.h := ⟨_, rfl⟩
        have e2 : finish E0 H25 Try.f25 h { s := lkS [(2, hpS i')], h := stT.h } = some (out, h') := e2
        have kT : evC E0 H45 Try.f45.ntmps noCall 0 T 0 { s := lkS [(0, hpS i), (9, .c (.v (.agg cs)))], h := h3 } (kL []) kN = some ([], h4) := by rw [evC_bind, kT', hh4]; rfl
        rw [← hh4] at e2
        cases rv with
        | ifc rv =>
        cases rv with
        | agg rv =>
        have f14 : Fr d G1 w1 G4 w4 := f3.trans f4
        have s1 := fun (i : Nat) (x : AV) (hx : lkS lA i = .c (.v x)) => by
          have := r1.slot i
          rw [show ({ s := lkS lA, h := hA } : St).s i = .c (.v x) from hx] at this
          exact (RepA.mono f14.ext (show RepA _ _ _ x _ from this))
        have s3 := fun (i : Nat) (x : AV) (hx : st2.s i = .c (.v x)) => by
          have := r3.slot i
          rw [hx] at this
          exact (RepA.mono f4.ext (show RepA _ _ _ x _ from this))
        rw [d3, ← hD]
        refine leaves_cons (by intro h; cases h) (invoke45 _ _) ((catching (d := d) (s1 2 _ (hpOf_eq hi)) (.agg rv) rh rw' kT).mono ?_)
        rintro e' u' w' ⟨⟨v, rfl⟩, rfl, G5, f5, rh5, rw5⟩
        have r5 : RepSt d G5 w' { s := lkS [(2, hpS i')], h := h4 } a3.tmps := by
          refine ⟨fun x => ?_, fun u t off hu => ?_, rh5, rw5⟩
          · rcases lkS_spec [(2, hpS i')] x with e | e
            · show RepSlot _ _ _ _ (lkS _ _) _
              rw [e]; trivial
            · show RepSlot _ _ _ _ (lkS _ _) _
              have e' := e
              simp only [List.mem_cons, Prod.mk.injEq, List.not_mem_nil, or_false] at e'
              obtain ⟨rfl, h2⟩ := e'
              rw [h2]; exact RepA.mono f5.ext (s3 2 _ (hpOf_eq hi'))
          · exfalso
            have hu : lkS [(2, hpS i')] u = .path t off := hu
            rcases lkS_spec [(2, hpS i')] u with e | e
            · rw [e] at hu; cases hu
            · rw [hu] at e; simp at e
        obtain ⟨v, k1, ⟨G6, k2, k3, k4, k5⟩, k6⟩ := finish_ok okE0 hh r5 ((f1.trans f14).trans f5) e2
        refine ⟨v, k1, G6, k2, k3, k4, ?_⟩
        cases out with
        | ret a => exact k5
        | own n es => exact k5
        | pan a => exact absurd rfl (k6 a)
      · cases e2
    · cases e

theorem p25_C : PrimC p25 := by
  refine ⟨fun c c' hc args h r e => ?_, fun c c' hc hl args h r e => ?_⟩
  · unfold p25 at e ⊢
    obtain ⟨hle, e⟩ := condE e
    rw [hle, cond_true]
    rw [Option.bind_eq_some_iff] at e ⊢; obtain ⟨q, hq, e⟩ := e
    refine ⟨q, hq, ?_⟩
    rw [Option.bind_eq_some_iff] at e ⊢; obtain ⟨sr, hsr, e⟩ := e
    exact ⟨sr, step_mono hc hsr, e⟩
  · unfold p25 at e
    obtain ⟨hle, e⟩ := condE e
    rw [Option.bind_eq_some_iff] at e; obtain ⟨q, hq, e⟩ := e
    rw [Option.bind_eq_some_iff] at e; obtain ⟨sr, hsr, e⟩ := e
    have hup : ∀ {k k' : Nat}, k ≤ k' → Le (c k) (c k') := by
      intro k k' hk
      induction hk with
      | refl => exact fun _ _ _ _ h => h
      | step _ ih => exact fun f a h r e => hc _ f a h r (ih f a h r e)
    obtain ⟨k, hk⟩ := step_lim ⟨fun _ _ h => hup h, hl⟩ hsr
    refine ⟨k, ?_⟩
    unfold p25
    rw [hle, cond_true, hq, Option.bind_some, hk, Option.bind_some]; exact e

end Go.Sh.T.CD

namespace Go.Sh.T.CD
open Go Go.Sh Go.Proofs
set_option maxRecDepth 100000
section
variable (F : Nat → List AV → Heap → R) (h h5 : Heap) (f : Nat) (x y z w : AV)
abbrev HA (h : Heap) : Heap := h ++ ([[.v (.lit (.bool false))]] : Heap)
theorem kF : p25 F [.fn f [] [x, y, z]] h = p25 (fun _ _ _ => F f [x, y, z] (HA h)) [.fn f [] [x, y, z]] h := by kernel_rfl
theorem kR : p25 (fun _ _ _ => some (.ret w, h5)) [.fn f [] [x, y, z]] h = ((hstore h5 h.length 0 [.v (.lit (.bool true))]).bind fun h6 => some ([(2, hpS h.length)], h6)).bind fun p => finish E0 H25 Try.f25 h { s := lkS p.1, h := p.2 } := by kernel_rfl
theorem kR2 : finish E0 H25 Try.f25 h { s := lkS [(2, hpS h.length)], h := h5 } = (hpart false 1 0 h.length h5).bind fun r => trunc H25 h (.ret r) h5 := by kernel_rfl
theorem kP : p25 (fun _ _ _ => some (.pan (.ifc 73 (.agg [])), h5)) [.fn f [] [x, y, z]] h = (hstore h5 h.length 0 [.v (.lit (.bool false))]).bind fun h6 => (hpart false 1 0 h.length h6).bind fun r => trunc H25 h (.ret r) h6 := by kernel_rfl
end
end Go.Sh.T.CD

/- name.shape: a range over a string, by its shadow. -/
namespace Go.Sh.T
set_option maxRecDepth 100000
set_option linter.unusedVariables false
set_option linter.unusedSimpArgs false
open Go Go.Sh Go.Proofs

/- what is told of bytes -/
def lowB (c : Int) : Bool := bif decide (c ≥ 97) then decide (c ≤ 122) else false
def upB (c : Int) : Bool := bif decide (c ≥ 65) then decide (c ≤ 90) else false
def digB (c : Int) : Bool := bif decide (c ≥ 48) then decide (c ≤ 57) else false
def bytes (s : ByteArray) : List UInt8 := s.data.toList
theorem bytes_len (s : ByteArray) : (bytes s).length = s.size := by unfold bytes; exact Array.length_toList

namespace P85
theorem noPrims0 : PrimsOk E0 := fun f p h => by cases h
noncomputable def call0 : Nat → List AV → Heap → R := ev E0 3
theorem call0_ok : SoundC Try.prog call0 := ev_ok okE0 noPrims0 3
theorem low0 (c : Int) (h : Heap) : call0 90 [.lit (.int .i32 c)] h = some (.ret (.lit (.bool (lowB c))), h) := by
  have : call0 90 [.lit (.int .i32 c)] h = cond (decide (c ≥ 97)) (some (.ret (.lit (.bool (decide (c ≤ 122)))), h)) (some (.ret (.lit (.bool false)), h)) := by kernel_rfl
  rw [this]; unfold lowB; cases decide (c ≥ 97) <;> rfl
theorem up0 (c : Int) (h : Heap) : call0 91 [.lit (.int .i32 c)] h = some (.ret (.lit (.bool (upB c))), h) := by
  have : call0 91 [.lit (.int .i32 c)] h = cond (decide (c ≥ 65)) (some (.ret (.lit (.bool (decide (c ≤ 90)))), h)) (some (.ret (.lit (.bool false)), h)) := by kernel_rfl
  rw [this]; unfold upB; cases decide (c ≥ 65) <;> rfl
theorem dig0 (c : Int) (h : Heap) : call0 92 [.lit (.int .i32 c)] h = some (.ret (.lit (.bool (digB c))), h) := by
  have : call0 92 [.lit (.int .i32 c)] h = cond (decide (c ≥ 48)) (some (.ret (.lit (.bool (decide (c ≤ 57)))), h)) (some (.ret (.lit (.bool false)), h)) := by kernel_rfl
  rw [this]; unfold digB; cases decide (c ≥ 48) <;> rfl

def pL : Code → Code
  | .seq a _ => a
  | .block _ c => c
  | .loop c => c
  | .cond _ a _ => a
  | c => c
def pR : Code → Code
  | .seq _ b => b
  | .cond _ _ b => b
  | c => c
def opsOf : Code → Array Oper
  | .region _ ops _ => ops
  | _ => #[]
noncomputable def body : Code := Try.f85.body.getD .skip
noncomputable def R0 := pL body
noncomputable def R1 := pL (pL (pR body))
noncomputable def R2 := pL (pL (pR (pL (pR body))))
noncomputable def R3 := pL (pR (pR body))
noncomputable def t4 := pR (pR (pR body))
noncomputable def R4 := pL (pL t4)
noncomputable def lp := pL (pL (pR (pL t4)))
noncomputable def R5 := pL lp
noncomputable def b1 := pR (pR lp)
noncomputable def R14 := pL (pR t4)
noncomputable def o4 (i : Nat) : Oper := (opsOf R4).getD i default
noncomputable def o5 (i : Nat) : Oper := (opsOf R5).getD i default
abbrev S (l : List (Nat × Slot)) (h : Heap) : St := { s := lkS l, h := h }
noncomputable abbrev ev0 (L : List Nat) (c : Code) (st : St) : Option (List (Nat × Slot) × Heap) := evC E0 {} Try.f85.ntmps call0 0 c 0 st (kL L) kN
abbrev iv (i : Int) : Slot := .c (.v (.lit (.int .i64 i)))
abbrev bv (b : Bool) : Slot := .c (.v (.lit (.bool b)))
abbrev sv (s : ByteArray) : Slot := .c (.v (.lit (.string s)))
abbrev pv (k : Nat) : Slot := .c (.v (.lit (.pointer (some ⟨k, 0, none⟩))))

/-- What a round's body comes to. -/
def kS : Ex → St → Option ((AV × AV × Heap) ⊕ (AV × Heap))
  | .normal, st => ((st.s 3).av).bind fun a => ((st.s 10).av).bind fun b => some (.inl (a, b, st.h))
  | .ret, st => ((st.s 2).av).bind fun a => some (.inr (a, st.h))
  | _, _ => none
theorem b1nf (h : Heap) (x3 x10 x13 x14 : AV) : evC E0 {} Try.f85.ntmps call0 0 b1 0 (S [(3, .c (.v x3)), (10, .c (.v x10)), (11, .c (.v (.tup [.lit (.bool true), x13, x14])))] h) kS kN = (binAV E0 .eql 3 x13 (.lit (.int .i64 0))).bind fun r1 => (boolOf r1).bind fun b2 => cond b2 (onOut (call0 90 [x14] h) (fun a3 h4 => (boolOf a3).bind fun b5 => cond b5 (some (.inl (.lit (.int .i64 1), x10, h4))) ((binAV E0 .eql 3 x13 (.lit (.int .i64 0))).bind fun r6 => (boolOf r6).bind fun b7 => cond b7 (onOut (call0 91 [x14] h4) (fun a8 h9 => (boolOf a8).bind fun b10 => cond b10 (some (.inl (.lit (.int .i64 2), x10, h9))) ((binAV E0 .gtr 3 x13 (.lit (.int .i64 0))).bind fun r11 => (boolOf r11).bind fun b12 => cond b12 ((binAV E0 .neq 3 x3 (.lit (.int .i64 0))).bind fun r13 => (boolOf r13).bind fun b14 => cond b14 (onOut (call0 90 [x14] h9) (fun a15 h16 => (boolOf a15).bind fun b17 => cond b17 (some (.inl (x3, x10, h16))) (onOut (call0 92 [x14] h16) (fun a18 h19 => (boolOf a18).bind fun b20 => cond b20 (some (.inl (x3, x10, h19))) ((binAV E0 .gtr 3 x13 (.lit (.int .i64 0))).bind fun r21 => (boolOf r21).bind fun b22 => cond b22 ((binAV E0 .eql 3 x3 (.lit (.int .i64 2))).bind fun r23 => (boolOf r23).bind fun b24 => cond b24 (onOut (call0 91 [x14] h19) (fun a25 h26 => (boolOf a25).bind fun b27 => cond b27 (some (.inl (x3, x10, h26))) (some (.inr (.lit (.int .i64 0), h26)))) (fun _ _ _ => none) (fun _ _ => none)) (some (.inr (.lit (.int .i64 0), h19)))) (some (.inr (.lit (.int .i64 0), h19))))) (fun _ _ _ => none) (fun _ _ => none))) (fun _ _ _ => none) (fun _ _ => none)) ((binAV E0 .gtr 3 x13 (.lit (.int .i64 0))).bind fun r28 => (boolOf r28).bind fun b29 => cond b29 ((binAV E0 .eql 3 x3 (.lit (.int .i64 2))).bind fun r30 => (boolOf r30).bind fun b31 => cond b31 (onOut (call0 91 [x14] h9) (fun a32 h33 => (boolOf a32).bind fun b34 => cond b34 (some (.inl (x3, x10, h33))) (some (.inr (.lit (.int .i64 0), h33)))) (fun _ _ _ => none) (fun _ _ => none)) (some (.inr (.lit (.int .i64 0), h9)))) (some (.inr (.lit (.int .i64 0), h9))))) ((binAV E0 .gtr 3 x13 (.lit (.int .i64 0))).bind fun r35 => (boolOf r35).bind fun b36 => cond b36 ((binAV E0 .eql 3 x3 (.lit (.int .i64 2))).bind fun r37 => (boolOf r37).bind fun b38 => cond b38 (onOut (call0 91 [x14] h9) (fun a39 h40 => (boolOf a39).bind fun b41 => cond b41 (some (.inl (x3, x10, h40))) (some (.inr (.lit (.int .i64 0), h40)))) (fun _ _ _ => none) (fun _ _ => none)) (some (.inr (.lit (.int .i64 0), h9)))) (some (.inr (.lit (.int .i64 0), h9)))))) (fun _ _ _ => none) (fun _ _ => none)) ((binAV E0 .gtr 3 x13 (.lit (.int .i64 0))).bind fun r42 => (boolOf r42).bind fun b43 => cond b43 ((binAV E0 .neq 3 x3 (.lit (.int .i64 0))).bind fun r44 => (boolOf r44).bind fun b45 => cond b45 (onOut (call0 90 [x14] h4) (fun a46 h47 => (boolOf a46).bind fun b48 => cond b48 (some (.inl (x3, x10, h47))) (onOut (call0 92 [x14] h47) (fun a49 h50 => (boolOf a49).bind fun b51 => cond b51 (some (.inl (x3, x10, h50))) ((binAV E0 .gtr 3 x13 (.lit (.int .i64 0))).bind fun r52 => (boolOf r52).bind fun b53 => cond b53 ((binAV E0 .eql 3 x3 (.lit (.int .i64 2))).bind fun r54 => (boolOf r54).bind fun b55 => cond b55 (onOut (call0 91 [x14] h50) (fun a56 h57 => (boolOf a56).bind fun b58 => cond b58 (some (.inl (x3, x10, h57))) (some (.inr (.lit (.int .i64 0), h57)))) (fun _ _ _ => none) (fun _ _ => none)) (some (.inr (.lit (.int .i64 0), h50)))) (some (.inr (.lit (.int .i64 0), h50))))) (fun _ _ _ => none) (fun _ _ => none))) (fun _ _ _ => none) (fun _ _ => none)) ((binAV E0 .gtr 3 x13 (.lit (.int .i64 0))).bind fun r59 => (boolOf r59).bind fun b60 => cond b60 ((binAV E0 .eql 3 x3 (.lit (.int .i64 2))).bind fun r61 => (boolOf r61).bind fun b62 => cond b62 (onOut (call0 91 [x14] h4) (fun a63 h64 => (boolOf a63).bind fun b65 => cond b65 (some (.inl (x3, x10, h64))) (some (.inr (.lit (.int .i64 0), h64)))) (fun _ _ _ => none) (fun _ _ => none)) (some (.inr (.lit (.int .i64 0), h4)))) (some (.inr (.lit (.int .i64 0), h4))))) ((binAV E0 .gtr 3 x13 (.lit (.int .i64 0))).bind fun r66 => (boolOf r66).bind fun b67 => cond b67 ((binAV E0 .eql 3 x3 (.lit (.int .i64 2))).bind fun r68 => (boolOf r68).bind fun b69 => cond b69 (onOut (call0 91 [x14] h4) (fun a70 h71 => (boolOf a70).bind fun b72 => cond b72 (some (.inl (x3, x10, h71))) (some (.inr (.lit (.int .i64 0), h71)))) (fun _ _ _ => none) (fun _ _ => none)) (some (.inr (.lit (.int .i64 0), h4)))) (some (.inr (.lit (.int .i64 0), h4))))))) (fun _ _ _ => none) (fun _ _ => none)) ((binAV E0 .eql 3 x13 (.lit (.int .i64 0))).bind fun r73 => (boolOf r73).bind fun b74 => cond b74 (onOut (call0 91 [x14] h) (fun a75 h76 => (boolOf a75).bind fun b77 => cond b77 (some (.inl (.lit (.int .i64 2), x10, h76))) ((binAV E0 .gtr 3 x13 (.lit (.int .i64 0))).bind fun r78 => (boolOf r78).bind fun b79 => cond b79 ((binAV E0 .neq 3 x3 (.lit (.int .i64 0))).bind fun r80 => (boolOf r80).bind fun b81 => cond b81 (onOut (call0 90 [x14] h76) (fun a82 h83 => (boolOf a82).bind fun b84 => cond b84 (some (.inl (x3, x10, h83))) (onOut (call0 92 [x14] h83) (fun a85 h86 => (boolOf a85).bind fun b87 => cond b87 (some (.inl (x3, x10, h86))) ((binAV E0 .gtr 3 x13 (.lit (.int .i64 0))).bind fun r88 => (boolOf r88).bind fun b89 => cond b89 ((binAV E0 .eql 3 x3 (.lit (.int .i64 2))).bind fun r90 => (boolOf r90).bind fun b91 => cond b91 (onOut (call0 91 [x14] h86) (fun a92 h93 => (boolOf a92).bind fun b94 => cond b94 (some (.inl (x3, x10, h93))) (some (.inr (.lit (.int .i64 0), h93)))) (fun _ _ _ => none) (fun _ _ => none)) (some (.inr (.lit (.int .i64 0), h86)))) (some (.inr (.lit (.int .i64 0), h86))))) (fun _ _ _ => none) (fun _ _ => none))) (fun _ _ _ => none) (fun _ _ => none)) ((binAV E0 .gtr 3 x13 (.lit (.int .i64 0))).bind fun r95 => (boolOf r95).bind fun b96 => cond b96 ((binAV E0 .eql 3 x3 (.lit (.int .i64 2))).bind fun r97 => (boolOf r97).bind fun b98 => cond b98 (onOut (call0 91 [x14] h76) (fun a99 h100 => (boolOf a99).bind fun b101 => cond b101 (some (.inl (x3, x10, h100))) (some (.inr (.lit (.int .i64 0), h100)))) (fun _ _ _ => none) (fun _ _ => none)) (some (.inr (.lit (.int .i64 0), h76)))) (some (.inr (.lit (.int .i64 0), h76))))) ((binAV E0 .gtr 3 x13 (.lit (.int .i64 0))).bind fun r102 => (boolOf r102).bind fun b103 => cond b103 ((binAV E0 .eql 3 x3 (.lit (.int .i64 2))).bind fun r104 => (boolOf r104).bind fun b105 => cond b105 (onOut (call0 91 [x14] h76) (fun a106 h107 => (boolOf a106).bind fun b108 => cond b108 (some (.inl (x3, x10, h107))) (some (.inr (.lit (.int .i64 0), h107)))) (fun _ _ _ => none) (fun _ _ => none)) (some (.inr (.lit (.int .i64 0), h76)))) (some (.inr (.lit (.int .i64 0), h76)))))) (fun _ _ _ => none) (fun _ _ => none)) ((binAV E0 .gtr 3 x13 (.lit (.int .i64 0))).bind fun r109 => (boolOf r109).bind fun b110 => cond b110 ((binAV E0 .neq 3 x3 (.lit (.int .i64 0))).bind fun r111 => (boolOf r111).bind fun b112 => cond b112 (onOut (call0 90 [x14] h) (fun a113 h114 => (boolOf a113).bind fun b115 => cond b115 (some (.inl (x3, x10, h114))) (onOut (call0 92 [x14] h114) (fun a116 h117 => (boolOf a116).bind fun b118 => cond b118 (some (.inl (x3, x10, h117))) ((binAV E0 .gtr 3 x13 (.lit (.int .i64 0))).bind fun r119 => (boolOf r119).bind fun b120 => cond b120 ((binAV E0 .eql 3 x3 (.lit (.int .i64 2))).bind fun r121 => (boolOf r121).bind fun b122 => cond b122 (onOut (call0 91 [x14] h117) (fun a123 h124 => (boolOf a123).bind fun b125 => cond b125 (some (.inl (x3, x10, h124))) (some (.inr (.lit (.int .i64 0), h124)))) (fun _ _ _ => none) (fun _ _ => none)) (some (.inr (.lit (.int .i64 0), h117)))) (some (.inr (.lit (.int .i64 0), h117))))) (fun _ _ _ => none) (fun _ _ => none))) (fun _ _ _ => none) (fun _ _ => none)) ((binAV E0 .gtr 3 x13 (.lit (.int .i64 0))).bind fun r126 => (boolOf r126).bind fun b127 => cond b127 ((binAV E0 .eql 3 x3 (.lit (.int .i64 2))).bind fun r128 => (boolOf r128).bind fun b129 => cond b129 (onOut (call0 91 [x14] h) (fun a130 h131 => (boolOf a130).bind fun b132 => cond b132 (some (.inl (x3, x10, h131))) (some (.inr (.lit (.int .i64 0), h131)))) (fun _ _ _ => none) (fun _ _ => none)) (some (.inr (.lit (.int .i64 0), h)))) (some (.inr (.lit (.int .i64 0), h))))) ((binAV E0 .gtr 3 x13 (.lit (.int .i64 0))).bind fun r133 => (boolOf r133).bind fun b134 => cond b134 ((binAV E0 .eql 3 x3 (.lit (.int .i64 2))).bind fun r135 => (boolOf r135).bind fun b136 => cond b136 (onOut (call0 91 [x14] h) (fun a137 h138 => (boolOf a137).bind fun b139 => cond b139 (some (.inl (x3, x10, h138))) (some (.inr (.lit (.int .i64 0), h138)))) (fun _ _ _ => none) (fun _ _ => none)) (some (.inr (.lit (.int .i64 0), h)))) (some (.inr (.lit (.int .i64 0), h)))))) := by kernel_rfl

/-- One round, of plain values: the next kind; none: no name. -/
def stepP (z : Bool) (k c : Int) : Option Int :=
  bif z && lowB c then some 1 else bif z && upB c then some 2 else bif !z && (k != 0 && (lowB c || digB c)) then some k else bif !z && (k == 2 && upB c) then some k else none
def outP (q : Nat) (h : Heap) (r : Option Int) : (AV × AV × Heap) ⊕ (AV × Heap) := match r with
  | some k => .inl (.lit (.int .i64 k), .lit (.pointer (some ⟨q, 0, none⟩)), h)
  | none => .inr (.lit (.int .i64 0), h)

theorem body_ok (h : Heap) (k c : Int) (i q : Nat) (b : Bool) : evC E0 {} Try.f85.ntmps call0 0 b1 0 (S [(3, iv k), (10, pv q), (11, .c (.v (.tup [.lit (.bool true), .lit (.int .i64 (i : Int)), .lit (.int .i32 c)])))] h) kS kN = some (outP q h (stepP (i == 0) k c)) := by
  rw [b1nf]
  have e1 : (((i : Int) == 0)) = (i == 0) := by rw [Bool.eq_iff_iff]; simp
  have e2 : decide ((i : Int) > 0) = !(i == 0) := by rw [Bool.eq_iff_iff]; simp; omega
  simp only [bin_int, eqlI, neqI, gtrI, bind_some', boolB, low0, up0, dig0, onOut_ret, e1, e2]
  unfold stepP
  cases i == 0 <;> cases lowB c <;> cases upB c <;> cases digB c <;> cases k != 0 <;> cases k == 2 <;> rfl

section
variable (s : ByteArray) (h : Heap)
theorem e0 : ev0 [0] R0 (S [(0, sv s)] h) = some ([(0, sv s)], h) := by kernel_rfl
theorem e1 : ev0 [0, 8] R1 (S [(0, sv s)] h) = some ([(0, sv s), (8, bv (decide ((s.size : Int) > 8)))], h) := by kernel_rfl
theorem e2 (st : Nat → Slot) : ev0 [2] R2 { s := st, h := h } = some ([(2, iv 0)], h) := by kernel_rfl
theorem e3 (b : Bool) : ev0 [0, 3] R3 (S [(0, sv s), (8, bv b)] h) = some ([(0, sv s), (3, iv 0)], h) := by kernel_rfl
theorem e40 : stepK E0 {} Try.f85.ntmps call0 (opsOf R4) 0 (o4 0) (S [(0, sv s), (3, iv 0)] h) (kLs [3, 9]) kN = some ([(3, iv 0), (9, sv s)], h) := by kernel_rfl
theorem e51 (k : Int) (q : Nat) (x y : AV) : stepK E0 {} Try.f85.ntmps call0 (opsOf R5) 1 (o5 1) { s := upd (lkS [(3, iv k), (10, pv q)]) 11 (.c (.v (.tup [.lit (.bool true), x, y]))), h := h } (kLs [3, 10, 11, 12]) kN = some ([(3, iv k), (10, pv q), (11, .c (.v (.tup [.lit (.bool true), x, y]))), (12, bv true)], h) := by kernel_rfl
theorem e51f (k : Int) (q : Nat) : stepK E0 {} Try.f85.ntmps call0 (opsOf R5) 1 (o5 1) { s := upd (lkS [(3, iv k), (10, pv q)]) 11 (.c (.v (.tup [.lit (.bool false)]))), h := h } (kLs [3, 12]) kN = some ([(3, iv k), (12, bv false)], h) := by kernel_rfl
theorem e14 (k : Int) : ev0 [2] R14 (S [(3, iv k)] h) = some ([(2, iv k)], h) := by kernel_rfl
theorem fin2 (k : Int) : finish E0 {} Try.f85 h (S [(2, iv k)] h) = some (.ret (.lit (.int .i64 k)), h) := by kernel_rfl
end

/-- From a place on. -/
def goP (s : ByteArray) : Nat → Nat → Int → Int
  | 0, _, _ => 0
  | m + 1, pos, k => if h : pos < s.size then (match stepP (pos == 0) k (Utf8.decode s pos).1 with
      | some k' => goP s m (pos + (Utf8.decode s pos).2) k'
      | none => 0) else k
theorem decode_pos (s : ByteArray) (pos : Nat) : 1 ≤ (Utf8.decode s pos).2 := by
  simp only [Utf8.decode]
  repeat' split
  all_goals first | exact Nat.le_refl 1 | exact (by decide : 1 ≤ 2) | exact (by decide : 1 ≤ 3) | exact (by decide : 1 ≤ 4)

theorem decode_le (s : ByteArray) (pos : Nat) (h : pos < s.size) : pos + (Utf8.decode s pos).2 ≤ s.size := by
  simp only [Utf8.decode]
  repeat' split
  all_goals rename_i hc
  all_goals simp only [Bool.and_eq_true, decide_eq_true_eq] at *
  all_goals first | (show pos + 1 ≤ s.size; omega) | (show pos + 2 ≤ s.size; omega) | (show pos + 3 ≤ s.size; omega) | (show pos + 4 ≤ s.size; omega)

theorem slotA {d : Nat} {G : Gh} {w : World} {st : St} {a : Act} (r : RepSt d G w st a.tmps) {i : Nat} {x : AV} (h : st.s i = .c (.v x)) : RepA G.S w G.μ x (a.tmps.getD i undef) := by
  have := r.slot i
  rw [h] at this; exact this

theorem done_ok {d : Nat} {G0 : Gh} {w0 : World} {h : Heap} {a : Act} {w : World} {k : Int} (hat : AtSt d Try.f85.ntmps G0 w0 (S [(2, iv k)] h) a w) (hd : a.defers = []) : bodyPost Try.prog Try.f85 (EndOk d G0 w0 (.ret (.lit (.int .i64 k))) h) .ret a w := by
  obtain ⟨G, r, hnt, hf⟩ := hat
  obtain ⟨v, k1, ⟨G', k2, k3, k4, k5⟩, _⟩ := finish_ok (G0 := G) (w0 := w) okE0 r.heap r (Fr.refl _ _ _) (fin2 h k)
  exact ⟨hd, v, k1, G', hf.trans k2, k3, k4, k5⟩
theorem of_avs {d : Nat} {G : Gh} {w : World} {st : St} {tmps : Array Value} (r : RepSt d G w st tmps) (l : List (Nat × AV)) (hl : ∀ p ∈ l, (st.s p.1).av = some p.2) : RepSt d G w (S (l.map fun p => (p.1, .c (.v p.2))) st.h) tmps := by
  refine ⟨fun i => ?_, fun u t off hu => ?_, r.heap, r.within⟩
  · show RepSlot G w d i (lkS _ i) _
    rcases lkS_spec (l.map fun p => (p.1, Slot.c (.v p.2))) i with e | e
    · rw [e]; trivial
    · obtain ⟨p, hp, e2⟩ := List.mem_map.1 e
      have e3 := (Prod.mk.inj e2).1; have e4 := (Prod.mk.inj e2).2
      subst e3; rw [← e4]; exact (r.slot p.1).av (hl p hp)
  · have hu : lkS (l.map fun p => (p.1, Slot.c (.v p.2))) u = .path t off := hu
    rcases lkS_spec (l.map fun p => (p.1, Slot.c (.v p.2))) u with e | e
    · rw [e] at hu; cases hu
    · obtain ⟨p, hp, e2⟩ := List.mem_map.1 e
      have e4 := (Prod.mk.inj e2).2
      rw [hu] at e4; cases e4

theorem loop_ok {d q : Nat} {G0 : Gh} {w0 : World} {h : Heap} {s : ByteArray} (hq : w0.heap.size ≤ q) {r : Int} {Q : Exit → Act → World → Prop}
    (hex : ∀ a w, AtSt d Try.f85.ntmps G0 w0 (S [(3, iv r)] h) a w → a.defers = [] → Q (.exit 0) a w)
    (hret : r = 0 → ∀ a w, AtSt d Try.f85.ntmps G0 w0 (S [(2, iv 0)] h) a w → a.defers = [] → Q .ret a w) :
    ∀ (m pos : Nat) (k : Int) (a : Act) (G : Gh) (w : World), s.size < m + pos → pos ≤ s.size → goP s m pos k = r → RepSt d G w (S [(3, iv k), (10, pv q)] h) a.tmps → a.tmps.size = Try.f85.ntmps → Fr d G0 w0 G w → G.O q = .none → w.heap[q]? = some (.stringIter s pos) → a.defers = [] →
      Code.roundsIn (FF none) 0 Try.prog lp Q m a w
  | 0, pos, k, a, G, w, h1, hle, hr, rs, hn, hf, ho, hi, hd => by omega
  | m + 1, pos, k, a, G, w, h1, hle, hr, rs, hn, hf, ho, hi, hd => by
    rw [roundsIn_succ]
    refine wpIn_seq (wpIn_region ?_)
    change wpOpsIn _ _ _ (opsOf R5) _ [0, 1] _ _
    rw [wpOpsIn_cons]
    have v10 : a.tmps.getD 10 undef = .pointer (some ⟨q, 0, none⟩) := (slotA rs (i := 10) rfl).litE
    have hev : a.eval (.tmp 10) = .pointer (some ⟨q, 0, none⟩) := v10
    have hx : ∀ arr T fz, Obj.stringIter s pos ≠ .cells arr T fz := fun _ _ _ e => by cases e
    unfold goP at hr
    by_cases hp : pos < s.size
    · rw [dif_pos hp] at hr
      have hy : ∀ arr T fz, Obj.stringIter s (pos + (Utf8.decode s pos).2) ≠ .cells arr T fz := fun _ _ _ e => by cases e
      have rs1 := st_putN (y := .stringIter s (pos + (Utf8.decode s pos).2)) hi hx hy ho rs
      have f1 : Fr d G0 w0 G (w.putObj q (.stringIter s (pos + (Utf8.decode s pos).2))) := hf.putN hq hi hx hy
      refine step_value (o := o5 0) (nt := Try.f85.ntmps) (st := S _ h) (x := .tup [.lit (.bool true), .lit (.int .i64 (pos : Int)), .lit (.int .i32 ((Utf8.decode s pos).1 : Int))]) (v := .tuple #[.bool true, .int .i64 pos, .int .i32 (Utf8.decode s pos).1]) (w' := w.putObj q (.stringIter s (pos + (Utf8.decode s pos).2))) (G' := G) rfl rfl rfl (fun c hc => by cases hc) (by decide) rfl hn ?_ rs1 (.tup (.cons (.lit rfl) (.cons (.lit rfl) (.cons (.lit rfl) .nil)))) fun a1 r1 n1 d1 => ?_
      · have hnx := Lib.run_next_any_at (P := Try.prog) w q s pos (o5 0).type hi hp
        unfold execOp
        show Sem.run Try.prog (Instr.next (a.eval (.tmp 10)) true _ >>= _) w = _
        rw [hev, Sem.run_bind, hnx]
        rfl
      · rw [wpOpsIn_cons]
        refine step_keep okE0 call0_ok (H := {}) (G0 := G) (w0 := w.putObj q (.stringIter s (pos + (Utf8.decode s pos).2))) rfl [3, 10, 11, 12] (e51 h k q _ _) ⟨G, r1, n1, Fr.refl _ _ _⟩ (d1.trans hd) fun a2 w2 hat2 hd2 => ?_
        obtain ⟨G2, r2, n2, f2⟩ := hat2
        refine wpIn_seq (wpIn_cond_true (slotA r2 (i := 12) rfl).litE (wpIn_skip ?_))
        have rk := r2.keep (some [3, 10, 11])
        refine Code.wpIn_mono (fun e a3 w3 hq3 => ?_) (evC_ok (ro := none) (nn := 0) (D := []) (G0 := G2) (w0 := w2) okE0 call0_ok b1 0 _ kS a2 w2 (body_ok h k (Utf8.decode s pos).1 pos q true) ⟨G2, rk, n2, Fr.refl _ _ _⟩ hd2)
        obtain ⟨hd3, hq3⟩ := hq3
        have hq0 : q < (w.putObj q (.stringIter s (pos + (Utf8.decode s pos).2))).heap.size := by simpa using lt_of_heap hi
        have s2 := f2.same q hq0 (by rw [ho]; rfl)
        have hi2 : w2.heap[q]? = some (.stringIter s (pos + (Utf8.decode s pos).2)) := s2.1.trans (put_same (lt_of_heap hi))
        cases e with
        | normal =>
          obtain ⟨st', G3, k1, k2, k3, k4⟩ := hq3
          unfold kS at k1
          simp only at k1
          rw [Option.bind_eq_some_iff] at k1; obtain ⟨x3, hx3, k1⟩ := k1
          rw [Option.bind_eq_some_iff] at k1; obtain ⟨x10, hx10, k1⟩ := k1
          have k1 := Option.some.inj k1
          cases hs : stepP (pos == 0) k ((Utf8.decode s pos).1 : Int) with
          | none => rw [hs] at k1; cases k1
          | some k' =>
            rw [hs] at k1 hr
            simp only [outP, Sum.inl.injEq, Prod.mk.injEq] at k1
            obtain ⟨rfl, rfl, hh⟩ := k1
            have rk3 := of_avs k2 [(3, .lit (.int .i64 k')), (10, .lit (.pointer (some ⟨q, 0, none⟩)))] (fun p hp => by
              simp only [List.mem_cons, List.not_mem_nil, or_false] at hp
              rcases hp with e | e
              · rw [e]; exact hx3
              · rw [e]; exact hx10)
            rw [hh] at rk3
            have s3 := k4.same q (lt_of_heap hi2) (by rw [s2.2.2, ho]; rfl)
            have hw := decode_pos s pos
            exact loop_ok hq hex hret m _ k' a3 G3 w3 (by omega) (decode_le s pos hp) hr rk3 k3 ((f1.trans f2).trans k4) (s3.2.2.trans (s2.2.2.trans ho)) (s3.1.trans hi2) hd3
        | ret =>
          obtain ⟨st', G3, k1, k2, k3, k4⟩ := hq3
          unfold kS at k1
          simp only at k1
          rw [Option.bind_eq_some_iff] at k1; obtain ⟨x2, hx2, k1⟩ := k1
          have k1 := Option.some.inj k1
          cases hs : stepP (pos == 0) k ((Utf8.decode s pos).1 : Int) with
          | some k' => rw [hs] at k1; cases k1
          | none =>
            rw [hs] at k1 hr
            simp only [outP, Sum.inr.injEq, Prod.mk.injEq] at k1
            obtain ⟨rfl, hh⟩ := k1
            have rk3 := of_avs k2 [(2, .lit (.int .i64 0))] (fun p hp => by
              simp only [List.mem_cons, List.not_mem_nil, or_false] at hp
              rw [hp]; exact hx2)
            rw [hh] at rk3
            exact hret hr.symm a3 w3 ⟨G3, rk3, k3, (f1.trans f2).trans k4⟩ hd3
        | exit i => obtain ⟨st', G3, k1, _⟩ := hq3; cases k1
        | panic ch => obtain ⟨x, v, G3, h', _, k1, _⟩ := hq3; cases k1
        | goto l => exact hq3.elim
        | outgrown => exact hq3.elim
    · rw [dif_neg hp] at hr
      subst hr
      refine step_value (o := o5 0) (nt := Try.f85.ntmps) (st := S _ h) (x := .tup [.lit (.bool false)]) (v := .tuple #[.bool false]) (w' := w) (G' := G) rfl rfl rfl (fun c hc => by cases hc) (by decide) rfl hn ?_ rs (.tup (.cons (.lit rfl) .nil)) fun a1 r1 n1 d1 => ?_
      · have hnx := Lib.run_next_end_at (P := Try.prog) w q s pos (o5 0).type hi hp
        unfold execOp
        show Sem.run Try.prog (Instr.next (a.eval (.tmp 10)) true _ >>= _) w = _
        rw [hev, Sem.run_bind, hnx]
        rfl
      · rw [wpOpsIn_cons]
        refine step_keep okE0 call0_ok (H := {}) (G0 := G0) (w0 := w0) rfl [3, 12] (e51f h k q) ⟨G, r1, n1, hf⟩ (d1.trans hd) fun a2 w2 hat2 hd2 => ?_
        obtain ⟨G2, r2, n2, f2⟩ := hat2
        refine wpIn_seq (wpIn_cond_false (slotA r2 (i := 12) rfl).litE (wpIn_exit ?_))
        exact hex a2 w2 ⟨G2, r2.keep (some [3]), n2, f2⟩ hd2

/-- What a text is by its letters alone. -/
def shapeP (s : ByteArray) : Int := bif decide ((s.size : Int) > 8) then 0 else goP s 10 0 0

theorem shape_ends (s : ByteArray) (h : Heap) : Ends Try.prog 85 [.lit (.string s)] h (.ret (.lit (.int .i64 (shapeP s)))) h := by
  refine ⟨⟨Try.f85, Try.func85, by kernel_rfl, rfl⟩, fun d G w argv hr hh hw => ?_⟩
  refine calls_of_wp Try.func85 rfl ?_
  refine (wpIn_wide (n := 0)).1 ?_
  have hal : argv.size = 1 := by simpa using hr.length.symm
  have hat : AtSt d Try.f85.ntmps G w (S [(0, sv s)] h) { tmps := argv ++ Array.replicate (Try.f85.ntmps - argv.size) undef, defers := [] } w := by
    refine ⟨G, ⟨fun i => ?_, fun u t off hu => ?_, hh, hw⟩, by rw [Array.size_append, Array.size_replicate, hal]; rfl, Fr.refl d G w⟩
    · rcases lkS_spec [(0, sv s)] i with e | e
      · show RepSlot _ _ _ _ (lkS _ _) _
        rw [e]; trivial
      · refine argSlots_spec [.lit (.string s)] 0 argv.toList hr (fun j x hj => ?_) _ e
        have hj' : j < argv.size := by simpa using (List.getElem?_eq_some_iff.1 hj).1
        rw [Nat.zero_add, Array.getD_eq_getD_getElem?, Array.getElem?_append_left hj', ← Array.getElem?_toList, hj]; rfl
    · exfalso
      have hu : lkS [(0, sv s)] u = .path t off := hu
      rcases lkS_spec [(0, sv s)] u with e | e
      · rw [e] at hu; cases hu
      · rw [hu] at e; simp at e
  refine wpIn_seq (seg_keep okE0 call0_ok (H := {}) (n := 0) (bi := 0) [0] (e0 s h) hat rfl fun a1 w1 hat1 hd1 => ?_)
  refine wpIn_seq (wpIn_seq (seg_keep okE0 call0_ok (H := {}) (n := 0) (bi := 0) [0, 8] (e1 s h) hat1 hd1 fun a2 w2 hat2 hd2 => ?_))
  obtain ⟨G2, r2, n2, f2⟩ := hat2
  have hb := (slotA r2 (i := 8) rfl).litE
  unfold shapeP
  cases hd8 : decide ((s.size : Int) > 8) with
  | true =>
    rw [hd8] at hb
    refine wpIn_cond_true hb (wpIn_seq (seg_keep okE0 call0_ok (H := {}) (n := 0) (bi := 0) [2] (e2 h _) ⟨G2, r2, n2, f2⟩ hd2 fun a3 w3 hat3 hd3 => ?_))
    exact wpIn_ret (done_ok hat3 hd3)
  | false =>
    rw [hd8] at hb
    have h9 : ¬ ((s.size : Int) > 8) := of_decide_eq_false hd8
    have h8 : s.size ≤ 8 := by omega
    refine wpIn_cond_false hb (wpIn_skip ?_)
    refine wpIn_seq (seg_keep okE0 call0_ok (H := {}) (n := 0) (bi := 0) [0, 3] (e3 s h _) ⟨G2, r2, n2, f2⟩ hd2 fun a3 w3 hat3 hd3 => ?_)
    refine wpIn_seq (wpIn_seq (wpIn_region ?_))
    change wpOpsIn _ _ _ (opsOf R4) _ [0, 1] _ _
    rw [wpOpsIn_cons]
    refine step_keep okE0 call0_ok (H := {}) rfl [3, 9] (e40 s h) hat3 hd3 fun a4 w4 hat4 hd4 => ?_
    rw [wpOpsIn_cons]
    obtain ⟨G4, r4, n4, f4⟩ := hat4
    have v9 : a4.eval (.tmp 9) = .string s := (slotA r4 (i := 9) rfl).litE
    obtain ⟨ra, fa⟩ := st_alloc (.stringIter s 0) r4
    refine step_value (o := o4 1) (nt := Try.f85.ntmps) (st := S _ h) (x := .lit (.pointer (some ⟨w4.heap.size, 0, none⟩))) (v := .pointer (some ⟨w4.heap.size, 0, none⟩)) (w' := w4.alloc (.stringIter s 0)) (G' := setO G4 w4.heap.size .none) rfl rfl rfl (fun c hc => by cases hc) (by decide) rfl n4 ?_ ra (.lit rfl) fun a5 r5 n5 d5 => ?_
    · have hnx := run_range_string (P := Try.prog) w4 9 s Try.underlying9
      unfold execOp
      show Sem.run Try.prog (Instr.range 9 (a4.eval (.tmp 9)) >>= _) w4 = _
      rw [v9, Sem.run_bind, hnx]
      rfl
    · refine wpIn_block (wpIn_loop_rounds 10 ?_)
      have r6 := r5.keep (some [3, 10])
      refine loop_ok (r := goP s 10 0 0) (h := h) (s := s) (G0 := G) (w0 := w) (q := w4.heap.size) f4.size ?_ ?_ 10 0 0 a5 (setO G4 w4.heap.size .none) (w4.alloc (.stringIter s 0)) (by omega) (Nat.zero_le _) rfl r6 n5 (f4.trans fa) setO_self (heap_alloc_new _ _) (d5.trans hd4)
      · intro a6 w6 hat6 hd6
        show Code.wpIn (FF none) 0 Try.prog (pR t4) (bodyPost Try.prog Try.f85 (EndOk d G w (.ret (.lit (.int .i64 (goP s 10 0 0)))) h)) a6 w6
        refine wpIn_seq (seg_keep okE0 call0_ok (H := {}) (n := 0) (bi := 0) [2] (e14 h _) hat6 hd6 fun a7 w7 hat7 hd7 => ?_)
        exact wpIn_ret (done_ok hat7 hd7)
      · intro hr0 a6 w6 hat6 hd6
        rw [show cond false 0 (goP s 10 0 0) = goP s 10 0 0 from rfl, hr0]
        exact done_ok hat6 hd6
end P85

def p85 : (Nat → List AV → Heap → R) → List AV → Heap → R := fun _ args h => match args with
  | [.lit (.string s)] => some (.ret (.lit (.int .i64 (P85.shapeP s))), h)
  | _ => none
theorem p85_ok (call : Nat → List AV → Heap → R) (args : List AV) (h : Heap) (out : Out) (h' : Heap) (e : p85 call args h = some (out, h')) : Ends Try.prog 85 args h out h' := by
  unfold p85 at e
  split at e
  · have e := Option.some.inj e; cases e
    exact P85.shape_ends _ _
  · cases e
end Go.Sh.T

/- The prims of Gen. -/
namespace Go.Sh.T
open Go Go.Sh Go.Proofs
set_option maxRecDepth 100000
set_option linter.unusedVariables false

/-- One need gets a type more: cell c of need N of what the slice in cell 1 of block i holds. -/
def pushP (c i : Nat) (N : Int) (s : List AV) (h : Heap) : Option Heap :=
  (h[i]?).bind fun (cs : List Cell) => match (cs[1]? : Option Cell) with
  | some (.v (.hs m j off len)) => bif Nat.beq m 2 && decide (0 ≤ N) && decide (N.toNat < len) then (h[j]?).bind fun (cells : List Cell) => (match (cells[off + N.toNat * 2 + c]? : Option Cell) with
    | some (.own n es) => bif Nat.beq n 5 && Nat.ble (es.length + 1) maxApp then some (h.set j (cells.set (off + N.toNat * 2 + c) (.own 5 (es ++ [s])))) else none
    | _ => none) else none
  | _ => none
def pushF (c : Nat) : (Nat → List AV → Heap → R) → List AV → Heap → R := fun _ args h => match args with
  | [.hp i 0, .agg [p0, .lit (.int .i64 N), p2, p3, p4], .agg [s0, s1, s2, s3, s4]] => (pushP c i N [s0, s1, s2, s3, s4] h).bind fun h2 => some (.ret (.tup []), h2)
  | _ => none
theorem pushP_some {c i : Nat} {N : Int} {s : List AV} {h h2 : Heap} (e : pushP c i N s h = some h2) : ∃ cs j off len cells es, h[i]? = some cs ∧ cs[1]? = some (.v (.hs 2 j off len)) ∧ 0 ≤ N ∧ N.toNat < len ∧ h[j]? = some cells ∧ cells[off + N.toNat * 2 + c]? = some (.own 5 es) ∧ es.length + 1 ≤ maxApp ∧ h2 = h.set j (cells.set (off + N.toNat * 2 + c) (.own 5 (es ++ [s]))) := by
  unfold pushP at e
  rw [Option.bind_eq_some_iff] at e; obtain ⟨cs, hcs, e⟩ := e
  split at e
  · rename_i m j off len hc
    obtain ⟨hb, e⟩ := condE e
    simp only [Bool.and_eq_true, decide_eq_true_eq] at hb
    rw [Option.bind_eq_some_iff] at e; obtain ⟨cells, hcl, e⟩ := e
    split at e
    · rename_i n es hce
      obtain ⟨hb2, e3⟩ := condE e
      clear e
      simp only [Bool.and_eq_true] at hb2
      have := beqE hb.1.1; subst this
      have := beqE hb2.1; subst this
      exact ⟨cs, j, off, len, cells, es, hcs, hc, hb.1.2, hb.2, hcl, hce, bleE hb2.2, (Option.some.inj e3).symm⟩
    · cases e
  · cases e
theorem pushF_ok {f c : Nat} (hp : ∀ {i j off len : Nat} {N : Int} (p0 p2 p3 p4 s0 s1 s2 s3 s4 : AV) {es : List (List AV)} {h : Heap} {cs cells : List Cell} (hi : h[i]? = some cs) (hc : cs[1]? = some (.v (.hs 2 j off len))) (hN0 : 0 ≤ N) (hN : N.toNat < len)
    (hj : h[j]? = some cells) (hcell : cells[off + N.toNat * 2 + c]? = some (.own 5 es)) (hm : es.length + 1 ≤ maxApp), Ends Try.prog f [.hp i 0, .agg [p0, .lit (.int .i64 N), p2, p3, p4], .agg [s0, s1, s2, s3, s4]] h (.ret (.tup [])) (h.set j (cells.set (off + N.toNat * 2 + c) (.own 5 (es ++ [[s0, s1, s2, s3, s4]])))))
    (call : Nat → List AV → Heap → R) (args : List AV) (h : Heap) (out : Out) (h' : Heap) (e : pushF c call args h = some (out, h')) : Ends Try.prog f args h out h' := by
  unfold pushF at e
  split at e
  · rw [Option.bind_eq_some_iff] at e; obtain ⟨h2, e1, e⟩ := e
    obtain ⟨cs, j, off, len, cells, es, k1, k2, k3, k4, k5, k6, k7, k8⟩ := pushP_some e1
    have e := Option.some.inj e
    cases e
    rw [k8]
    exact hp _ _ _ _ _ _ _ _ _ k1 k2 k3 k4 k5 k6 k7
  · cases e
def p48 := pushF 0
def p50 := pushF 1
def p56 := pushF 0
def p76 := pushF 1
def p30 : (Nat → List AV → Heap → R) → List AV → Heap → R := fun _ args h => match args with
  | [.sl 1 [[.sl 5 xs], [.sl 5 ys]]] => bif Nat.ble (xs.length + ys.length) maxApp then some (.ret (.sl 5 (xs ++ ys)), h) else none
  | _ => none
theorem p48_ok (call : Nat → List AV → Heap → R) (args : List AV) (h : Heap) (out : Out) (h' : Heap) (e : p48 call args h = some (out, h')) : Ends Try.prog 48 args h out h' := pushF_ok push48 call args h out h' e
theorem p50_ok (call : Nat → List AV → Heap → R) (args : List AV) (h : Heap) (out : Out) (h' : Heap) (e : p50 call args h = some (out, h')) : Ends Try.prog 50 args h out h' := pushF_ok push50 call args h out h' e
theorem p56_ok (call : Nat → List AV → Heap → R) (args : List AV) (h : Heap) (out : Out) (h' : Heap) (e : p56 call args h = some (out, h')) : Ends Try.prog 56 args h out h' := pushF_ok push56 call args h out h' e
theorem p76_ok (call : Nat → List AV → Heap → R) (args : List AV) (h : Heap) (out : Out) (h' : Heap) (e : p76 call args h = some (out, h')) : Ends Try.prog 76 args h out h' := pushF_ok push76 call args h out h' e
theorem p30_ok (call : Nat → List AV → Heap → R) (args : List AV) (h : Heap) (out : Out) (h' : Heap) (e : p30 call args h = some (out, h')) : Ends Try.prog 30 args h out h' := by
  unfold p30 at e
  split at e
  · obtain ⟨hb, e⟩ := condE e
    cases Option.some.inj e
    exact concat30 _ _ (bleE hb) _
  · cases e
end Go.Sh.T
