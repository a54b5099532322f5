/- MnA: part of the proof: a shadow of the machine that is proved sound, and what the functions of this seat compute. Conditions: none. -/
import Derived.Test.YtbnilhjddpmodaaGreatDoorShB
import Derived.Test.YtbnilhjddpmodaaGreatDoorProg
import Derived.Test.YtbnilhjddpmodaaGreatDoorShC
import Derived.IntWalk
set_option linter.unusedSimpArgs false
namespace Go.Sh.T
open Go Go.Sh Go.Proofs
set_option maxRecDepth 1000000
set_option linter.unusedVariables false
noncomputable def ti1 : TI := { size := 1, bytes := 8, desc := .func #[] #[] false, zero := [.v (.lit .nilFunc)] }
theorem tok1 : TyOk Tryz.prog 1 ti1 := .of (by kernel_rfl) (by kernel_rfl)
noncomputable def ti3 : TI := { size := 1, bytes := 8, desc := .int .i64, zero := [.v (.lit (.int .i64 0))] }
theorem tok3 : TyOk Tryz.prog 3 ti3 := .of (by kernel_rfl) (by kernel_rfl)
noncomputable def ti4 : TI := { size := 1, bytes := 1, desc := .bool, zero := [.v (.lit (.bool false))] }
theorem tok4 : TyOk Tryz.prog 4 ti4 := .of (by kernel_rfl) (by kernel_rfl)
noncomputable def ti5 : TI := { size := 1, bytes := 1, desc := .int .u8, zero := [.v (.lit (.int .u8 0))] }
theorem tok5 : TyOk Tryz.prog 5 ti5 := .of (by kernel_rfl) (by kernel_rfl)
noncomputable def ti9 : TI := { size := 1, bytes := 16, desc := .string, zero := [.v (.lit (.string ByteArray.empty))] }
theorem tok9 : TyOk Tryz.prog 9 ti9 := .of (by kernel_rfl) (by kernel_rfl)
noncomputable def ti21 : TI := { size := 1, bytes := 4, desc := .int .i32, zero := [.v (.lit (.int .i32 0))] }
theorem tok21 : TyOk Tryz.prog 21 ti21 := .of (by kernel_rfl) (by kernel_rfl)
noncomputable def ti22 : TI := { size := 1, bytes := 24, desc := .slice 58, zero := [.nil 19] }
theorem tok22 : TyOk Tryz.prog 22 ti22 := .of (by kernel_rfl) (by kernel_rfl)
noncomputable def ti30 : TI := { size := 3, bytes := 32, desc := .struct #[⟨"K", 3, 0, false, "", "", 0⟩, ⟨"N", 3, 1, false, "", "", 8⟩, ⟨"S", 9, 2, false, "", "", 16⟩], zero := [.v (.lit (.int .i64 0)), .v (.lit (.int .i64 0)), .v (.lit (.string ByteArray.empty))] }
theorem tok30 : TyOk Tryz.prog 30 ti30 := .of (by kernel_rfl) (by kernel_rfl)
noncomputable def ti32 : TI := { size := 2, bytes := 24, desc := .struct #[⟨"Def", 9, 0, false, "", "", 0⟩, ⟨"Node", 3, 1, false, "", "", 16⟩], zero := [.v (.lit (.string ByteArray.empty)), .v (.lit (.int .i64 0))] }
theorem tok32 : TyOk Tryz.prog 32 ti32 := .of (by kernel_rfl) (by kernel_rfl)
noncomputable def ti34 : TI := { size := 7, bytes := 72, desc := .struct #[⟨"K", 3, 0, false, "", "", 0⟩, ⟨"Obs", 30, 1, false, "", "", 8⟩, ⟨"At", 32, 4, false, "", "", 40⟩, ⟨"Steps", 3, 6, false, "", "", 64⟩], zero := [.v (.lit (.int .i64 0)), .v (.lit (.int .i64 0)), .v (.lit (.int .i64 0)), .v (.lit (.string ByteArray.empty)), .v (.lit (.string ByteArray.empty)), .v (.lit (.int .i64 0)), .v (.lit (.int .i64 0))] }
theorem tok34 : TyOk Tryz.prog 34 ti34 := .of (by kernel_rfl) (by kernel_rfl)
noncomputable def ti35 : TI := { size := 1, bytes := 24, desc := .slice 43, zero := [.nil 5] }
theorem tok35 : TyOk Tryz.prog 35 ti35 := .of (by kernel_rfl) (by kernel_rfl)
noncomputable def ti36 : TI := { size := 1, bytes := 24, desc := .slice 9, zero := [.nil 1] }
theorem tok36 : TyOk Tryz.prog 36 ti36 := .of (by kernel_rfl) (by kernel_rfl)
noncomputable def ti37 : TI := { size := 1, bytes := 24, desc := .slice 39, zero := [.nil 10] }
theorem tok37 : TyOk Tryz.prog 37 ti37 := .of (by kernel_rfl) (by kernel_rfl)
noncomputable def ti39 : TI := { size := 10, bytes := 144, desc := .struct #[⟨"K", 3, 0, false, "", "", 0⟩, ⟨"N", 3, 1, false, "", "", 8⟩, ⟨"M", 3, 2, false, "", "", 16⟩, ⟨"In", 4, 3, false, "", "", 24⟩, ⟨"S", 9, 4, false, "", "", 32⟩, ⟨"At", 32, 5, false, "", "", 48⟩, ⟨"Types", 35, 7, false, "", "", 72⟩, ⟨"Labels", 36, 8, false, "", "", 96⟩, ⟨"Kids", 37, 9, false, "", "", 120⟩], zero := [.v (.lit (.int .i64 0)), .v (.lit (.int .i64 0)), .v (.lit (.int .i64 0)), .v (.lit (.bool false)), .v (.lit (.string ByteArray.empty)), .v (.lit (.string ByteArray.empty)), .v (.lit (.int .i64 0)), .nil 5, .nil 1, .nil 10] }
theorem tok39 : TyOk Tryz.prog 39 ti39 := .of (by kernel_rfl) (by kernel_rfl)
noncomputable def ti43 : TI := { size := 5, bytes := 80, desc := .struct #[⟨"K", 3, 0, false, "", "", 0⟩, ⟨"N", 3, 1, false, "", "", 8⟩, ⟨"Name", 9, 2, false, "", "", 16⟩, ⟨"Labels", 36, 3, false, "", "", 32⟩, ⟨"Args", 35, 4, false, "", "", 56⟩], zero := [.v (.lit (.int .i64 0)), .v (.lit (.int .i64 0)), .v (.lit (.string ByteArray.empty)), .nil 1, .nil 5] }
theorem tok43 : TyOk Tryz.prog 43 ti43 := .of (by kernel_rfl) (by kernel_rfl)
noncomputable def ti47 : TI := { size := 1, bytes := 24, desc := .slice 99, zero := [.nil 6] }
theorem tok47 : TyOk Tryz.prog 47 ti47 := .of (by kernel_rfl) (by kernel_rfl)
noncomputable def ti53 : TI := { size := 8, bytes := 144, desc := .struct #[⟨"Name", 9, 0, false, "", "", 0⟩, ⟨"Binders", 47, 1, false, "", "", 16⟩, ⟨"Params", 47, 2, false, "", "", 40⟩, ⟨"Result", 43, 3, false, "", "", 64⟩], zero := [.v (.lit (.string ByteArray.empty)), .nil 6, .nil 6, .v (.lit (.int .i64 0)), .v (.lit (.int .i64 0)), .v (.lit (.string ByteArray.empty)), .nil 1, .nil 5] }
theorem tok53 : TyOk Tryz.prog 53 ti53 := .of (by kernel_rfl) (by kernel_rfl)
noncomputable def ti54 : TI := { size := 1, bytes := 24, desc := .slice 56, zero := [.nil 11] }
theorem tok54 : TyOk Tryz.prog 54 ti54 := .of (by kernel_rfl) (by kernel_rfl)
noncomputable def ti56 : TI := { size := 11, bytes := 168, desc := .struct #[⟨"K", 3, 0, false, "", "", 0⟩, ⟨"N", 3, 1, false, "", "", 8⟩, ⟨"M", 3, 2, false, "", "", 16⟩, ⟨"In", 4, 3, false, "", "", 24⟩, ⟨"Name", 9, 4, false, "", "", 32⟩, ⟨"At", 32, 5, false, "", "", 48⟩, ⟨"Types", 35, 7, false, "", "", 72⟩, ⟨"Labels", 36, 8, false, "", "", 96⟩, ⟨"Kids", 54, 9, false, "", "", 120⟩, ⟨"Vals", 37, 10, false, "", "", 144⟩], zero := [.v (.lit (.int .i64 0)), .v (.lit (.int .i64 0)), .v (.lit (.int .i64 0)), .v (.lit (.bool false)), .v (.lit (.string ByteArray.empty)), .v (.lit (.string ByteArray.empty)), .v (.lit (.int .i64 0)), .nil 5, .nil 1, .nil 11, .nil 10] }
theorem tok56 : TyOk Tryz.prog 56 ti56 := .of (by kernel_rfl) (by kernel_rfl)
noncomputable def ti58 : TI := { size := 19, bytes := 312, desc := .struct #[⟨"Sig", 53, 0, false, "", "", 0⟩, ⟨"Body", 56, 8, false, "", "", 144⟩], zero := [.v (.lit (.string ByteArray.empty)), .nil 6, .nil 6, .v (.lit (.int .i64 0)), .v (.lit (.int .i64 0)), .v (.lit (.string ByteArray.empty)), .nil 1, .nil 5, .v (.lit (.int .i64 0)), .v (.lit (.int .i64 0)), .v (.lit (.int .i64 0)), .v (.lit (.bool false)), .v (.lit (.string ByteArray.empty)), .v (.lit (.string ByteArray.empty)), .v (.lit (.int .i64 0)), .nil 5, .nil 1, .nil 11, .nil 10] }
theorem tok58 : TyOk Tryz.prog 58 ti58 := .of (by kernel_rfl) (by kernel_rfl)
noncomputable def ti59 : TI := { size := 1, bytes := 24, desc := .slice 61, zero := [.nil 7] }
theorem tok59 : TyOk Tryz.prog 59 ti59 := .of (by kernel_rfl) (by kernel_rfl)
noncomputable def ti61 : TI := { size := 7, bytes := 112, desc := .struct #[⟨"K", 3, 0, false, "", "", 0⟩, ⟨"N", 3, 1, false, "", "", 8⟩, ⟨"Name", 9, 2, false, "", "", 16⟩, ⟨"Has", 4, 3, false, "", "", 32⟩, ⟨"Types", 35, 4, false, "", "", 40⟩, ⟨"Labels", 36, 5, false, "", "", 64⟩, ⟨"Kids", 59, 6, false, "", "", 88⟩], zero := [.v (.lit (.int .i64 0)), .v (.lit (.int .i64 0)), .v (.lit (.string ByteArray.empty)), .v (.lit (.bool false)), .nil 5, .nil 1, .nil 7] }
theorem tok61 : TyOk Tryz.prog 61 ti61 := .of (by kernel_rfl) (by kernel_rfl)
noncomputable def ti63 : TI := { size := 15, bytes := 256, desc := .struct #[⟨"Sig", 53, 0, true, "", "", 0⟩, ⟨"Body", 61, 8, false, "", "", 144⟩], zero := [.v (.lit (.string ByteArray.empty)), .nil 6, .nil 6, .v (.lit (.int .i64 0)), .v (.lit (.int .i64 0)), .v (.lit (.string ByteArray.empty)), .nil 1, .nil 5, .v (.lit (.int .i64 0)), .v (.lit (.int .i64 0)), .v (.lit (.string ByteArray.empty)), .v (.lit (.bool false)), .nil 5, .nil 1, .nil 7] }
theorem tok63 : TyOk Tryz.prog 63 ti63 := .of (by kernel_rfl) (by kernel_rfl)
noncomputable def ti72 : TI := { size := 1, bytes := 24, desc := .slice 134, zero := [.nil 12] }
theorem tok72 : TyOk Tryz.prog 72 ti72 := .of (by kernel_rfl) (by kernel_rfl)
noncomputable def ti79 : TI := { size := 1, bytes := 8, desc := .int .i64, zero := [.v (.lit (.int .i64 0))] }
theorem tok79 : TyOk Tryz.prog 79 ti79 := .of (by kernel_rfl) (by kernel_rfl)
noncomputable def ti81 : TI := { size := 1, bytes := 8, desc := .func #[56] #[4] false, zero := [.v (.lit .nilFunc)] }
theorem tok81 : TyOk Tryz.prog 81 ti81 := .of (by kernel_rfl) (by kernel_rfl)
noncomputable def ti82 : TI := { size := 1, bytes := 8, desc := .func #[43] #[4] false, zero := [.v (.lit .nilFunc)] }
theorem tok82 : TyOk Tryz.prog 82 ti82 := .of (by kernel_rfl) (by kernel_rfl)
noncomputable def ti83 : TI := { size := 1, bytes := 8, desc := .func #[39] #[4] false, zero := [.v (.lit .nilFunc)] }
theorem tok83 : TyOk Tryz.prog 83 ti83 := .of (by kernel_rfl) (by kernel_rfl)
noncomputable def ti86 : TI := { size := 1, bytes := 8, desc := .pointer 93, zero := [.v (.lit (.pointer none))] }
theorem tok86 : TyOk Tryz.prog 86 ti86 := .of (by kernel_rfl) (by kernel_rfl)
noncomputable def ti87 : TI := { size := 1, bytes := 24, desc := .slice 185, zero := [.nil 13] }
theorem tok87 : TyOk Tryz.prog 87 ti87 := .of (by kernel_rfl) (by kernel_rfl)
noncomputable def ti88 : TI := { size := 1, bytes := 24, desc := .slice 180, zero := [.nil 14] }
theorem tok88 : TyOk Tryz.prog 88 ti88 := .of (by kernel_rfl) (by kernel_rfl)
noncomputable def ti89 : TI := { size := 1, bytes := 8, desc := .pointer 174, zero := [.v (.lit (.pointer none))] }
theorem tok89 : TyOk Tryz.prog 89 ti89 := .of (by kernel_rfl) (by kernel_rfl)
noncomputable def ti91 : TI := { size := 12, bytes := 176, desc := .struct #[⟨"c", 56, 0, false, "", "limbeck/mach", 0⟩, ⟨"e", 89, 11, false, "", "limbeck/mach", 168⟩], zero := [.v (.lit (.int .i64 0)), .v (.lit (.int .i64 0)), .v (.lit (.int .i64 0)), .v (.lit (.bool false)), .v (.lit (.string ByteArray.empty)), .v (.lit (.string ByteArray.empty)), .v (.lit (.int .i64 0)), .nil 5, .nil 1, .nil 11, .nil 10, .v (.lit (.pointer none))] }
theorem tok91 : TyOk Tryz.prog 91 ti91 := .of (by kernel_rfl) (by kernel_rfl)
noncomputable def ti93 : TI := { size := 36, bytes := 512, desc := .struct #[⟨"funs", 22, 0, false, "", "limbeck/mach", 0⟩, ⟨"seals", 72, 1, false, "", "limbeck/mach", 24⟩, ⟨"clos", 87, 2, false, "", "limbeck/mach", 48⟩, ⟨"stack", 88, 3, false, "", "limbeck/mach", 72⟩, ⟨"at", 91, 4, false, "", "limbeck/mach", 96⟩, ⟨"v", 39, 16, false, "", "limbeck/mach", 272⟩, ⟨"back", 4, 26, false, "", "limbeck/mach", 416⟩, ⟨"fuel", 3, 27, false, "", "limbeck/mach", 424⟩, ⟨"out", 34, 28, false, "", "limbeck/mach", 432⟩, ⟨"over", 4, 35, false, "", "limbeck/mach", 504⟩], zero := [.nil 19, .nil 12, .nil 13, .v (.lit (.slice none 0 0)), .v (.lit (.int .i64 0)), .v (.lit (.int .i64 0)), .v (.lit (.int .i64 0)), .v (.lit (.bool false)), .v (.lit (.string ByteArray.empty)), .v (.lit (.string ByteArray.empty)), .v (.lit (.int .i64 0)), .nil 5, .nil 1, .nil 11, .nil 10, .v (.lit (.pointer none)), .v (.lit (.int .i64 0)), .v (.lit (.int .i64 0)), .v (.lit (.int .i64 0)), .v (.lit (.bool false)), .v (.lit (.string ByteArray.empty)), .v (.lit (.string ByteArray.empty)), .v (.lit (.int .i64 0)), .nil 5, .nil 1, .nil 10, .v (.lit (.bool false)), .v (.lit (.int .i64 0)), .v (.lit (.int .i64 0)), .v (.lit (.int .i64 0)), .v (.lit (.int .i64 0)), .v (.lit (.string ByteArray.empty)), .v (.lit (.string ByteArray.empty)), .v (.lit (.int .i64 0)), .v (.lit (.int .i64 0)), .v (.lit (.bool false))] }
theorem tok93 : TyOk Tryz.prog 93 ti93 := .of (by kernel_rfl) (by kernel_rfl)
noncomputable def ti97 : TI := { size := 1, bytes := 8, desc := .func #[58] #[4] false, zero := [.v (.lit .nilFunc)] }
theorem tok97 : TyOk Tryz.prog 97 ti97 := .of (by kernel_rfl) (by kernel_rfl)
noncomputable def ti99 : TI := { size := 6, bytes := 96, desc := .struct #[⟨"Name", 9, 0, false, "", "", 0⟩, ⟨"Type", 43, 1, false, "", "", 16⟩], zero := [.v (.lit (.string ByteArray.empty)), .v (.lit (.int .i64 0)), .v (.lit (.int .i64 0)), .v (.lit (.string ByteArray.empty)), .nil 1, .nil 5] }
theorem tok99 : TyOk Tryz.prog 99 ti99 := .of (by kernel_rfl) (by kernel_rfl)
noncomputable def ti125 : TI := { size := 1, bytes := 8, desc := .func #[9] #[4] false, zero := [.v (.lit .nilFunc)] }
theorem tok125 : TyOk Tryz.prog 125 ti125 := .of (by kernel_rfl) (by kernel_rfl)
noncomputable def ti134 : TI := { size := 12, bytes := 184, desc := .struct #[⟨"Rep", 43, 0, false, "", "", 0⟩, ⟨"Bound", 43, 5, false, "", "", 80⟩, ⟨"At", 32, 10, false, "", "", 160⟩], zero := [.v (.lit (.int .i64 0)), .v (.lit (.int .i64 0)), .v (.lit (.string ByteArray.empty)), .nil 1, .nil 5, .v (.lit (.int .i64 0)), .v (.lit (.int .i64 0)), .v (.lit (.string ByteArray.empty)), .nil 1, .nil 5, .v (.lit (.string ByteArray.empty)), .v (.lit (.int .i64 0))] }
theorem tok134 : TyOk Tryz.prog 134 ti134 := .of (by kernel_rfl) (by kernel_rfl)
noncomputable def ti142 : TI := { size := 1, bytes := 8, desc := .func #[39] #[39, 4] false, zero := [.v (.lit .nilFunc)] }
theorem tok142 : TyOk Tryz.prog 142 ti142 := .of (by kernel_rfl) (by kernel_rfl)
noncomputable def ti146 : TI := { size := 1, bytes := 8, desc := .func #[99] #[4] false, zero := [.v (.lit .nilFunc)] }
theorem tok146 : TyOk Tryz.prog 146 ti146 := .of (by kernel_rfl) (by kernel_rfl)
noncomputable def ti155 : TI := { size := 9, bytes := 72, desc := .array 9 3, zero := [.v (.lit (.int .i64 0)), .v (.lit (.int .i64 0)), .v (.lit (.int .i64 0)), .v (.lit (.int .i64 0)), .v (.lit (.int .i64 0)), .v (.lit (.int .i64 0)), .v (.lit (.int .i64 0)), .v (.lit (.int .i64 0)), .v (.lit (.int .i64 0))] }
theorem tok155 : TyOk Tryz.prog 155 ti155 := .of (by kernel_rfl) (by kernel_rfl)
noncomputable def ti169 : TI := { size := 1, bytes := 8, desc := .pointer 172, zero := [.v (.lit (.pointer none))] }
theorem tok169 : TyOk Tryz.prog 169 ti169 := .of (by kernel_rfl) (by kernel_rfl)
noncomputable def ti172 : TI := { size := 2, bytes := 32, desc := .struct #[⟨"names", 36, 0, false, "", "limbeck/env", 0⟩, ⟨"from", 3, 1, false, "", "limbeck/env", 24⟩], zero := [.nil 1, .v (.lit (.int .i64 0))] }
theorem tok172 : TyOk Tryz.prog 172 ti172 := .of (by kernel_rfl) (by kernel_rfl)
noncomputable def ti174 : TI := { size := 14, bytes := 184, desc := .struct #[⟨"name", 9, 0, false, "", "limbeck/env", 0⟩, ⟨"v", 39, 1, false, "", "limbeck/env", 16⟩, ⟨"n", 3, 11, false, "", "limbeck/env", 160⟩, ⟨"ahead", 89, 12, false, "", "limbeck/env", 168⟩, ⟨"types", 169, 13, false, "", "limbeck/env", 176⟩], zero := [.v (.lit (.string ByteArray.empty)), .v (.lit (.int .i64 0)), .v (.lit (.int .i64 0)), .v (.lit (.int .i64 0)), .v (.lit (.bool false)), .v (.lit (.string ByteArray.empty)), .v (.lit (.string ByteArray.empty)), .v (.lit (.int .i64 0)), .nil 5, .nil 1, .nil 10, .v (.lit (.int .i64 0)), .v (.lit (.pointer none)), .v (.lit (.pointer none))] }
theorem tok174 : TyOk Tryz.prog 174 ti174 := .of (by kernel_rfl) (by kernel_rfl)
noncomputable def ti177 : TI := { size := 3, bytes := 24, desc := .struct #[⟨"lo", 3, 0, false, "", "limbeck/conv", 0⟩, ⟨"hi", 3, 1, false, "", "limbeck/conv", 8⟩, ⟨"in", 4, 2, false, "", "limbeck/conv", 16⟩], zero := [.v (.lit (.int .i64 0)), .v (.lit (.int .i64 0)), .v (.lit (.bool false))] }
theorem tok177 : TyOk Tryz.prog 177 ti177 := .of (by kernel_rfl) (by kernel_rfl)
noncomputable def ti180 : TI := { size := 14, bytes := 208, desc := .struct #[⟨"place", 91, 0, true, "", "limbeck/mach", 0⟩, ⟨"done", 37, 12, false, "", "limbeck/mach", 176⟩, ⟨"turn", 142, 13, false, "", "limbeck/mach", 200⟩], zero := [.v (.lit (.int .i64 0)), .v (.lit (.int .i64 0)), .v (.lit (.int .i64 0)), .v (.lit (.bool false)), .v (.lit (.string ByteArray.empty)), .v (.lit (.string ByteArray.empty)), .v (.lit (.int .i64 0)), .nil 5, .nil 1, .nil 11, .nil 10, .v (.lit (.pointer none)), .v (.lit (.slice none 0 0)), .v (.lit .nilFunc)] }
theorem tok180 : TyOk Tryz.prog 180 ti180 := .of (by kernel_rfl) (by kernel_rfl)
noncomputable def ti185 : TI := { size := 13, bytes := 192, desc := .struct #[⟨"name", 9, 0, false, "", "limbeck/mach", 0⟩, ⟨"place", 91, 1, true, "", "limbeck/mach", 16⟩], zero := [.v (.lit (.string ByteArray.empty)), .v (.lit (.int .i64 0)), .v (.lit (.int .i64 0)), .v (.lit (.int .i64 0)), .v (.lit (.bool false)), .v (.lit (.string ByteArray.empty)), .v (.lit (.string ByteArray.empty)), .v (.lit (.int .i64 0)), .nil 5, .nil 1, .nil 11, .nil 10, .v (.lit (.pointer none))] }
theorem tok185 : TyOk Tryz.prog 185 ti185 := .of (by kernel_rfl) (by kernel_rfl)
noncomputable def ti186 : TI := { size := 1, bytes := 8, desc := .func #[82] #[] false, zero := [.v (.lit .nilFunc)] }
theorem tok186 : TyOk Tryz.prog 186 ti186 := .of (by kernel_rfl) (by kernel_rfl)
noncomputable def ti187 : TI := { size := 1, bytes := 8, desc := .func #[82] #[] false, zero := [.v (.lit .nilFunc)] }
theorem tok187 : TyOk Tryz.prog 187 ti187 := .of (by kernel_rfl) (by kernel_rfl)
noncomputable def ti208 : TI := { size := 1, bytes := 8, desc := .func #[61] #[4] false, zero := [.v (.lit .nilFunc)] }
theorem tok208 : TyOk Tryz.prog 208 ti208 := .of (by kernel_rfl) (by kernel_rfl)
noncomputable def ti260 : TI := { size := 1, bytes := 8, desc := .func #[208] #[] false, zero := [.v (.lit .nilFunc)] }
theorem tok260 : TyOk Tryz.prog 260 ti260 := .of (by kernel_rfl) (by kernel_rfl)
noncomputable def ti261 : TI := { size := 1, bytes := 8, desc := .func #[208] #[] false, zero := [.v (.lit .nilFunc)] }
theorem tok261 : TyOk Tryz.prog 261 ti261 := .of (by kernel_rfl) (by kernel_rfl)
noncomputable def ti266 : TI := { size := 8, bytes := 64, desc := .array 8 3, zero := [.v (.lit (.int .i64 0)), .v (.lit (.int .i64 0)), .v (.lit (.int .i64 0)), .v (.lit (.int .i64 0)), .v (.lit (.int .i64 0)), .v (.lit (.int .i64 0)), .v (.lit (.int .i64 0)), .v (.lit (.int .i64 0))] }
theorem tok266 : TyOk Tryz.prog 266 ti266 := .of (by kernel_rfl) (by kernel_rfl)
noncomputable def fs : List (Nat × Func) := [(14, Tryz.f14), (239, Tryz.f239), (129, Tryz.f129), (69, Tryz.f69), (70, Tryz.f70), (34, Tryz.f34), (31, Tryz.f31), (128, Tryz.f128), (74, Tryz.f74), (67, Tryz.f67), (68, Tryz.f68), (224, Tryz.f224), (225, Tryz.f225), (226, Tryz.f226), (145, Tryz.f145), (218, Tryz.f218), (46, Tryz.f46), (219, Tryz.f219), (45, Tryz.f45), (103, Tryz.f103), (124, Tryz.f124), (125, Tryz.f125), (175, Tryz.f175), (122, Tryz.f122), (174, Tryz.f174), (127, Tryz.f127), (120, Tryz.f120), (220, Tryz.f220), (221, Tryz.f221), (222, Tryz.f222), (223, Tryz.f223), (13, Tryz.f13), (33, Tryz.f33), (71, Tryz.f71), (72, Tryz.f72), (73, Tryz.f73), (35, Tryz.f35), (75, Tryz.f75), (130, Tryz.f130), (177, Tryz.f177), (178, Tryz.f178), (179, Tryz.f179), (5, Tryz.f5), (16, Tryz.f16), (37, Tryz.f37), (38, Tryz.f38), (17, Tryz.f17), (39, Tryz.f39), (76, Tryz.f76), (77, Tryz.f77), (40, Tryz.f40), (41, Tryz.f41), (131, Tryz.f131), (90, Tryz.f90), (15, Tryz.f15), (42, Tryz.f42), (43, Tryz.f43), (44, Tryz.f44), (54, Tryz.f54), (78, Tryz.f78), (79, Tryz.f79), (80, Tryz.f80), (87, Tryz.f87), (88, Tryz.f88), (89, Tryz.f89), (91, Tryz.f91), (93, Tryz.f93), (94, Tryz.f94), (95, Tryz.f95), (96, Tryz.f96), (97, Tryz.f97), (98, Tryz.f98), (99, Tryz.f99), (100, Tryz.f100), (101, Tryz.f101), (102, Tryz.f102), (109, Tryz.f109), (134, Tryz.f134), (135, Tryz.f135), (136, Tryz.f136), (137, Tryz.f137), (138, Tryz.f138), (139, Tryz.f139), (140, Tryz.f140), (141, Tryz.f141), (144, Tryz.f144), (146, Tryz.f146), (147, Tryz.f147), (148, Tryz.f148), (149, Tryz.f149), (150, Tryz.f150), (151, Tryz.f151), (157, Tryz.f157), (84, Tryz.f84), (181, Tryz.f181), (183, Tryz.f183), (184, Tryz.f184), (188, Tryz.f188), (189, Tryz.f189), (190, Tryz.f190), (191, Tryz.f191), (192, Tryz.f192), (194, Tryz.f194), (202, Tryz.f202), (232, Tryz.f232), (235, Tryz.f235), (237, Tryz.f237), (240, Tryz.f240), (241, Tryz.f241), (242, Tryz.f242), (243, Tryz.f243), (244, Tryz.f244), (245, Tryz.f245), (250, Tryz.f250), (251, Tryz.f251), (264, Tryz.f264), (267, Tryz.f267), (268, Tryz.f268), (269, Tryz.f269), (288, Tryz.f288), (82, Tryz.f82), (83, Tryz.f83), (85, Tryz.f85), (142, Tryz.f142)]
noncomputable def gs : List (Nat × Func) := [(176, Tryz.f176), (92, Tryz.f92), (238, Tryz.f238), (236, Tryz.f236), (193, Tryz.f193), (187, Tryz.f187), (132, Tryz.f132)]
noncomputable def ts : List (Nat × TI) := [(1, ti1), (3, ti3), (4, ti4), (5, ti5), (9, ti9), (21, ti21), (22, ti22), (30, ti30), (32, ti32), (34, ti34), (35, ti35), (36, ti36), (37, ti37), (39, ti39), (43, ti43), (47, ti47), (53, ti53), (54, ti54), (56, ti56), (58, ti58), (59, ti59), (61, ti61), (63, ti63), (72, ti72), (79, ti79), (81, ti81), (82, ti82), (83, ti83), (86, ti86), (87, ti87), (88, ti88), (89, ti89), (91, ti91), (93, ti93), (97, ti97), (99, ti99), (125, ti125), (134, ti134), (142, ti142), (146, ti146), (155, ti155), (169, ti169), (172, ti172), (174, ti174), (177, ti177), (180, ti180), (185, ti185), (186, ti186), (187, ti187), (208, ti208), (260, ti260), (261, ti261), (266, ti266)]
noncomputable def hints : List (Nat × FHint) := [(14, { keep := [(0, [1, 3, 4]), (2, [1, 3, 5])], base := [(6, 1), (11, 1), (16, 1), (27, 1), (36, 1), (47, 1)] }), (239, { keep := [(0, [3, 7, 8, 9])], base := [(6, 1)] }), (129, {}), (69, {}), (70, { keep := [(0, [0, 5, 6, 7])] }), (34, {}), (31, { base := [(7, 1), (11, 1), (19, 1), (25, 1), (30, 1), (36, 1), (41, 1), (46, 1), (52, 1), (58, 1), (61, 1), (66, 1)] }), (128, {}), (74, { keep := [(0, [0, 1, 7, 8])] }), (67, { base := [(3, 1), (7, 1), (12, 1), (16, 1), (22, 1), (26, 1)] }), (68, {}), (224, {}), (225, {}), (226, {}), (145, { hb := [1], hp := [1], esc := true }), (218, { keep := [(0, [1, 3, 4])], base := [(6, 1), (13, 1)] }), (46, { keep := [(0, [0, 1, 5])] }), (219, { keep := [(0, [1, 3, 4])], base := [(6, 1), (13, 1)] }), (45, { keep := [(0, [0, 1, 5])] }), (103, { keep := [(0, [2, 3, 5])], base := [(6, 2), (8, 3), (12, 2), (14, 3), (19, 2), (21, 3), (26, 2), (28, 3), (34, 2), (37, 3), (43, 2), (49, 3), (56, 2), (61, 3)] }), (124, {}), (125, { keep := [(0, [0, 3])] }), (175, {}), (122, { keep := [(0, [0, 1, 5])] }), (174, { keep := [(0, [0, 4, 5])] }), (127, { keep := [(0, [1, 3])], base := [(5, 1), (11, 1), (18, 1), (22, 1), (27, 1), (31, 1), (37, 1), (41, 1), (47, 1), (51, 1), (55, 1), (59, 1), (62, 1), (66, 1), (71, 1), (74, 1), (78, 1), (83, 1), (88, 1), (91, 1), (95, 1), (99, 1), (104, 1), (107, 1)] }), (120, { keep := [(0, [1, 2, 5])], base := [(6, 2), (11, 2), (17, 2)] }), (220, { keep := [(0, [0, 3, 4]), (2, [0, 5, 6])] }), (221, {}), (222, {}), (223, {}), (13, { keep := [(0, [1, 3, 4]), (2, [1, 3, 5])], base := [(6, 1), (11, 1), (15, 1), (16, 1), (22, 1), (33, 1), (41, 1), (52, 1)] }), (33, { base := [(10, 1)] }), (71, { base := [(4, 1), (8, 1), (12, 1), (16, 1), (21, 1), (25, 1), (30, 1), (34, 1), (38, 1)] }), (72, { base := [(4, 1), (9, 1), (14, 1), (23, 1), (27, 1), (36, 1), (41, 1), (50, 1), (56, 1), (61, 1), (66, 1), (69, 1), (75, 1), (81, 1), (86, 1), (92, 1), (101, 1), (110, 1), (115, 1), (117, 1)] }), (73, {}), (35, {}), (75, { keep := [(0, [0, 1, 7, 8])] }), (130, { base := [(5, 2), (10, 2), (17, 2), (24, 2)] }), (177, { base := [(3, 1)] }), (178, {}), (179, { base := [(6, 1)] }), (5, { base := [(39, 10)] }), (16, { hb := [36], hp := [14, 36, 37, 44, 46, 47, 48] }), (37, {}), (38, {}), (17, {}), (39, { hb := [5, 13, 16, 22], tr := [60], hp := [0, 5, 13, 16, 22, 24, 33, 35, 42, 43, 44, 56, 57, 58, 59, 71, 72, 74, 75, 76, 92, 125, 128], keep := [(0, [2, 3, 5, 9, 10, 12, 13, 49, 50, 51]), (2, [3, 5, 10, 12, 13, 16, 17, 84, 85, 86])], base := [(38, 10), (39, 10), (47, 10), (48, 10), (65, 15), (82, 10), (83, 10), (97, 19), (110, 19), (115, 10), (116, 10), (129, 10)], esc := true }), (76, { hb := [5], hp := [0, 5, 12, 13, 14, 21, 22, 23, 29, 30, 31], base := [(38, 11), (45, 11)] }), (77, { hp := [0, 5, 6, 8, 9, 10, 11, 12] }), (40, { hp := [0, 3, 4, 5, 8, 10, 11, 12, 13, 16, 17, 18, 20, 21, 22, 25, 26, 27, 28, 29, 31, 32, 33, 34, 35, 38, 39, 40, 44, 46, 47, 48, 49, 53, 54, 55], keep := [(0, [0, 2])] }), (41, {}), (131, { hp := [1], base := [(4, 2), (5, 2)] }), (90, { keep := [(0, [0, 1, 7, 8])] }), (15, { base := [(33, 3), (37, 3), (42, 4), (47, 5), (52, 7)] }), (42, { base := [(3, 1), (8, 1)] }), (43, { owns := [16], base := [(9, 1), (17, 1)] }), (44, { base := [(3, 1), (8, 1), (12, 1), (33, 1)] }), (54, { base := [(7, 3), (11, 3), (16, 3), (21, 4), (26, 3), (28, 4), (31, 3), (33, 4)] }), (78, { hp := [0, 3, 4, 5, 6, 8, 9, 10, 13, 15, 16, 17, 18, 21, 22, 23] }), (79, { tr := [12], keep := [(0, [3, 6, 7, 8])], base := [(13, 5)] }), (80, { hb := [9, 11], hp := [4, 9, 11], owns := [6], esc := true }), (87, { hp := [0, 2, 6, 7, 9, 11, 12, 13, 14] }), (88, { tr := [52], hp := [0, 2, 8, 10, 16, 23, 31, 38, 39, 48, 49, 50, 51, 59, 64, 65, 66, 67, 68, 69], base := [(6, 4), (17, 4), (24, 4), (32, 4), (40, 4), (53, 4), (55, 4)], esc := true }), (89, { hb := [38], hp := [0, 6, 7, 8, 12, 13, 14, 17, 19, 20, 21, 22, 26, 27, 33, 34, 35, 40, 43, 49, 50, 51, 57], base := [(28, 3), (31, 3), (39, 3), (47, 3)], esc := true, ms := [17] }), (91, { base := [(3, 1)] }), (93, {}), (94, {}), (95, { hb := [2], hp := [2] }), (96, { tr := [13, 19], keep := [(0, [3, 7, 8, 9])], base := [(6, 1), (14, 5)], own := true }), (97, { base := [(3, 1), (11, 1), (16, 1), (20, 1)] }), (98, { base := [(4, 1), (8, 1), (12, 1), (16, 1), (23, 1), (29, 1), (35, 1), (39, 1), (45, 1), (49, 1), (53, 1)] }), (99, { base := [(4, 1), (7, 1), (35, 1), (40, 1)] }), (100, { base := [(4, 1), (7, 1), (19, 1)] }), (101, {}), (102, {}), (109, { keep := [(0, [1, 2])], base := [(3, 1), (7, 1), (12, 1)] }), (134, { keep := [(0, [0, 1, 7, 8])] }), (135, { hp := [0, 3, 5, 6, 7] }), (136, { base := [(9, 3)] }), (137, { hb := [11], hp := [0, 4, 5, 6, 7, 12, 13], esc := true }), (138, { hp := [0, 4, 5, 7, 8, 9, 10] }), (139, {}), (140, { base := [(6, 3)] }), (141, {}), (144, { hp := [0, 20, 30, 33, 36, 46], base := [(5, 3), (8, 3), (9, 3), (10, 3), (24, 3), (25, 3), (26, 3), (37, 3), (38, 3), (39, 3), (44, 3), (45, 3)], esc := true }), (146, { base := [(5, 1), (6, 1), (11, 1), (12, 1), (18, 1), (19, 1), (36, 1), (42, 1)] }), (147, { keep := [(0, [0, 1, 7, 8])] }), (148, { hp := [1, 4] }), (149, { keep := [(0, [0, 10, 11, 12])] }), (150, {}), (151, { keep := [(0, [0, 1, 7, 8])] }), (157, { base := [(7, 2), (11, 2), (20, 2), (26, 2)] }), (84, {}), (181, { base := [(5, 3), (9, 3), (11, 2), (16, 3), (18, 2)] }), (183, { hp := [0, 9, 23, 30, 38, 44, 56, 61, 75], base := [(12, 3), (13, 3), (15, 3), (19, 4), (24, 4), (28, 3), (29, 3), (31, 4), (46, 4), (54, 3), (55, 3), (57, 4), (69, 4)] }), (184, { hp := [0, 8, 12, 15, 19, 24, 35, 42, 46, 51, 58], base := [(4, 3), (5, 3), (6, 3), (13, 3), (17, 3), (25, 3), (26, 3), (27, 3), (29, 3), (36, 3), (37, 3), (38, 3), (40, 3), (44, 3), (52, 3), (53, 3), (54, 3), (56, 3), (57, 3), (59, 3), (60, 3), (61, 3), (64, 3), (66, 3), (67, 3), (68, 3)], ms := [15, 19, 42, 46] }), (188, { keep := [(0, [2, 3, 14, 15, 16])], base := [(6, 1), (9, 1), (12, 1)] }), (189, { hb := [3], hp := [3] }), (190, { tr := [15, 28, 34], keep := [(0, [1, 3, 9, 10, 11]), (2, [1, 3, 22, 23, 24])], base := [(8, 1), (16, 5), (21, 1), (29, 7), (35, 1)] }), (191, {}), (192, { base := [(3, 1), (7, 1), (13, 1), (17, 1), (36, 1), (41, 1)] }), (194, { keep := [(0, [1, 4, 8, 9, 10])], base := [(14, 7), (18, 7)] }), (202, { base := [(16, 4), (21, 5), (30, 4), (32, 5), (38, 4), (40, 5), (46, 4), (48, 5), (54, 4), (56, 5), (63, 4), (65, 5), (71, 4), (73, 5), (77, 4), (79, 5)] }), (232, { tr := [14], hp := [0, 15], keep := [(0, [0, 5, 8, 9, 10])] }), (235, { hp := [0, 10, 22, 24] }), (237, { keep := [(0, [1, 3, 9, 10, 11]), (2, [3, 21, 22, 23])], base := [(8, 1), (20, 1)] }), (240, { hp := [1] }), (241, { base := [(3, 1), (11, 1), (16, 1), (20, 1)] }), (242, { base := [(3, 1), (7, 1), (12, 1), (16, 1), (22, 1), (26, 1), (30, 1)] }), (243, { base := [(4, 1), (7, 1), (20, 1), (28, 1)] }), (244, { base := [(4, 1), (7, 1), (35, 1), (44, 1)] }), (245, { hb := [3], hp := [3] }), (250, {}), (251, {}), (264, { hp := [0, 5, 8, 9, 10, 11, 16, 17, 18, 19, 20, 21, 23, 24, 25, 26, 27, 28] }), (267, { hb := [1], hp := [1], esc := true }), (268, {}), (269, { hp := [1] }), (288, { keep := [(0, [0, 1, 7, 8])] }), (82, { tr := [46], keep := [(0, [1, 2, 6, 8, 39, 40, 41])], base := [(22, 3), (25, 3), (37, 8), (38, 3), (45, 8), (53, 8)] }), (83, { hb := [15], hp := [0, 6, 7, 10, 13, 15, 16, 18, 19, 20, 21, 22, 23, 24, 25] }), (85, { hp := [0, 4] }), (142, { hp := [0, 8, 10] })]
noncomputable def E0 : Env := mkEnv Tryz.prog fs ts [] hints [30, 32, 34]
theorem allF : AllF Tryz.prog fs := ⟨Tryz.func14, Tryz.func239, Tryz.func129, Tryz.func69, Tryz.func70, Tryz.func34, Tryz.func31, Tryz.func128, Tryz.func74, Tryz.func67, Tryz.func68, Tryz.func224, Tryz.func225, Tryz.func226, Tryz.func145, Tryz.func218, Tryz.func46, Tryz.func219, Tryz.func45, Tryz.func103, Tryz.func124, Tryz.func125, Tryz.func175, Tryz.func122, Tryz.func174, Tryz.func127, Tryz.func120, Tryz.func220, Tryz.func221, Tryz.func222, Tryz.func223, Tryz.func13, Tryz.func33, Tryz.func71, Tryz.func72, Tryz.func73, Tryz.func35, Tryz.func75, Tryz.func130, Tryz.func177, Tryz.func178, Tryz.func179, Tryz.func5, Tryz.func16, Tryz.func37, Tryz.func38, Tryz.func17, Tryz.func39, Tryz.func76, Tryz.func77, Tryz.func40, Tryz.func41, Tryz.func131, Tryz.func90, Tryz.func15, Tryz.func42, Tryz.func43, Tryz.func44, Tryz.func54, Tryz.func78, Tryz.func79, Tryz.func80, Tryz.func87, Tryz.func88, Tryz.func89, Tryz.func91, Tryz.func93, Tryz.func94, Tryz.func95, Tryz.func96, Tryz.func97, Tryz.func98, Tryz.func99, Tryz.func100, Tryz.func101, Tryz.func102, Tryz.func109, Tryz.func134, Tryz.func135, Tryz.func136, Tryz.func137, Tryz.func138, Tryz.func139, Tryz.func140, Tryz.func141, Tryz.func144, Tryz.func146, Tryz.func147, Tryz.func148, Tryz.func149, Tryz.func150, Tryz.func151, Tryz.func157, Tryz.func84, Tryz.func181, Tryz.func183, Tryz.func184, Tryz.func188, Tryz.func189, Tryz.func190, Tryz.func191, Tryz.func192, Tryz.func194, Tryz.func202, Tryz.func232, Tryz.func235, Tryz.func237, Tryz.func240, Tryz.func241, Tryz.func242, Tryz.func243, Tryz.func244, Tryz.func245, Tryz.func250, Tryz.func251, Tryz.func264, Tryz.func267, Tryz.func268, Tryz.func269, Tryz.func288, Tryz.func82, Tryz.func83, Tryz.func85, Tryz.func142, trivial⟩
theorem allG : AllF Tryz.prog gs := ⟨Tryz.func176, Tryz.func92, Tryz.func238, Tryz.func236, Tryz.func193, Tryz.func187, Tryz.func132, trivial⟩
theorem allT : AllT Tryz.prog ts := ⟨tok1, tok3, tok4, tok5, tok9, tok21, tok22, tok30, tok32, tok34, tok35, tok36, tok37, tok39, tok43, tok47, tok53, tok54, tok56, tok58, tok59, tok61, tok63, tok72, tok79, tok81, tok82, tok83, tok86, tok87, tok88, tok89, tok91, tok93, tok97, tok99, tok125, tok134, tok142, tok146, tok155, tok169, tok172, tok174, tok177, tok180, tok185, tok186, tok187, tok208, tok260, tok261, tok266, trivial⟩
theorem okE0 : E0.Ok := mkEnv_ok (gs := []) allF trivial allT (by kernel_rfl) rfl rfl (by kernel_rfl) (by kernel_rfl)
end Go.Sh.T

/- The walk over a tree's nodes: what the iterator promises. -/
namespace Go.Sh.T
open Go Go.Sh Go.Proofs
set_option maxRecDepth 100000
set_option linter.unusedVariables false
set_option linter.unusedSimpArgs false

namespace W34
def yl (l : Nat) : AV := .lit (.func (.yield l) #[] #[])

mutual
inductive Tr : List AV → List AV → Prop
  | mk {q0 q1 q2 q3 : AV} {kids : List (List AV)} {xs : List AV} (h : TrL kids xs) (hl : kids.length ≤ 9223372036854775807) : Tr [q0, q1, q2, q3, .sl 5 kids] (.agg [q0, q1, q2, q3, .sl 5 kids] :: xs)
inductive TrL : List (List AV) → List AV → Prop
  | nil : TrL [] []
  | cons {e : List AV} {r : List (List AV)} {xs ys : List AV} (h : Tr e xs) (t : TrL r ys) : TrL (e :: r) (xs ++ ys)
end

theorem Tr.len {e xs : List AV} (h : Tr e xs) : e.length = 5 := by cases h; rfl

noncomputable def body : Code := Tryz.f186.body.getD .skip
def pL : Code → Code
  | .seq a _ => a
  | .block _ c => c
  | .loop c => c
  | .cond _ a _ => a
  | c => c
def pR : Code → Code
  | .seq _ b => b
  | .cond _ _ b => b
  | c => c
def opsOf : Code → Array Oper
  | .region _ ops _ => ops
  | _ => #[]
noncomputable def R0 := pL body
noncomputable def R1 := pL (pL (pR body))
noncomputable def R2 := pL (pL (pR (pL (pR body))))
noncomputable def tl := pR (pR body)
noncomputable def R3 := pL (pL tl)
noncomputable def lp := pL (pL (pR (pL tl)))
noncomputable def R4 := pL lp
noncomputable def b1 := pL (pL (pR (pR lp)))
noncomputable def R5 := pL b1
noncomputable def R6 := pL (pR b1)
noncomputable def R7 := pL (pL (pR (pR b1)))
noncomputable def R8 := pR (pR (pR lp))
noncomputable def R9 := pL (pR tl)
noncomputable def o1 (i : Nat) : Oper := (opsOf R1).getD i default
noncomputable def o6 (i : Nat) : Oper := (opsOf R6).getD i default

abbrev S (l : List (Nat × Slot)) (h : Heap) : St := { s := lkS l, h := h }
abbrev HB : FHint := { base := [(11, 2)] }
noncomputable abbrev ev0 (L : List Nat) (c : Code) (st : St) : Option (List (Nat × Slot) × Heap) := evC E0 HB Tryz.f186.ntmps noCall 0 c 0 st (kL L) kN
abbrev lc (l : List AV) : Slot := .loc (l.map .v)
abbrev iv (i : Int) : Slot := .c (.v (.lit (.int .i64 i)))
abbrev bv (b : Bool) : Slot := .c (.v (.lit (.bool b)))

section
variable (l : Nat) (q0 q1 q2 q3 : AV) (kids : List (List AV)) (h : Heap)
theorem e0 : ev0 [1, 2] R0 (S [(0, .c (.v (.agg [q0, q1, q2, q3, .sl 5 kids]))), (1, .c (.v (yl l)))] h) = some ([(1, .c (.v (yl l))), (2, lc [q0, q1, q2, q3, .sl 5 kids])], h) := by kernel_rfl
theorem e10 : stepK E0 {} Tryz.f186.ntmps noCall (opsOf R1) 0 (o1 0) (S [(1, .c (.v (yl l))), (2, lc [q0, q1, q2, q3, .sl 5 kids])] h) (kLs [1, 2, 7]) kN = some ([(1, .c (.v (yl l))), (2, lc [q0, q1, q2, q3, .sl 5 kids]), (7, .c (.v (yl l)))], h) := by kernel_rfl
theorem e11 : stepK E0 {} Tryz.f186.ntmps noCall (opsOf R1) 1 (o1 1) (S [(1, .c (.v (yl l))), (2, lc [q0, q1, q2, q3, .sl 5 kids]), (7, .c (.v (yl l)))] h) (kLs [1, 2, 7, 8]) kN = some ([(1, .c (.v (yl l))), (2, lc [q0, q1, q2, q3, .sl 5 kids]), (7, .c (.v (yl l))), (8, .c (.v (.agg [q0, q1, q2, q3, .sl 5 kids])))], h) := by kernel_rfl
theorem e13 (t : Bool) : stepK E0 {} Tryz.f186.ntmps noCall (opsOf R1) 3 (o1 3) { s := upd (lkS [(1, .c (.v (yl l))), (2, lc [q0, q1, q2, q3, .sl 5 kids]), (7, .c (.v (yl l))), (8, .c (.v (.agg [q0, q1, q2, q3, .sl 5 kids])))]) 9 (bv t), h := h } (kLs [1, 2, 10]) kN = some ([(1, .c (.v (yl l))), (2, lc [q0, q1, q2, q3, .sl 5 kids]), (10, bv (!t))], h) := by cases t <;> kernel_rfl
theorem e2 (st : Nat → Slot) : ev0 [4] R2 { s := st, h := h } = some ([(4, bv false)], h) := by kernel_rfl
theorem e3 (t : Bool) : ev0 [1, 12, 13, 14] R3 (S [(1, .c (.v (yl l))), (2, lc [q0, q1, q2, q3, .sl 5 kids]), (10, bv t)] h) = some ([(1, .c (.v (yl l))), (12, .c (.v (.sl 5 kids))), (13, iv kids.length), (14, iv 0)], h) := by kernel_rfl
theorem e4 (n i : Int) : ev0 [1, 12, 13, 14, 15] R4 (S [(1, .c (.v (yl l))), (12, .c (.v (.sl 5 kids))), (13, iv n), (14, iv i)] h) = some ([(1, .c (.v (yl l))), (12, .c (.v (.sl 5 kids))), (13, iv n), (14, iv i), (15, bv (decide (i < n)))], h) := by kernel_rfl
theorem e5 (n i : Int) (t : Bool) : ev0 [1, 12, 13, 14, 6] R5 (S [(1, .c (.v (yl l))), (12, .c (.v (.sl 5 kids))), (13, iv n), (14, iv i), (15, bv t)] h) = (indexA 5 (.sl 5 kids) (.lit (.int .i64 i))).bind fun e => (partA true 5 0 e).bind fun v => explodeK ti43 v fun cs => some ([(1, .c (.v (yl l))), (12, .c (.v (.sl 5 kids))), (13, iv n), (14, iv i), (6, .loc cs)], h) := by kernel_rfl
theorem e60 (n i : Int) (zs : List (List AV)) : stepK E0 {} Tryz.f186.ntmps noCall (opsOf R6) 0 (o6 0) (S [(1, .c (.v (yl l))), (12, .c (.v (.sl 5 zs))), (13, iv n), (14, iv i), (6, lc [q0, q1, q2, q3, .sl 5 kids])] h) (kLs [1, 12, 13, 14, 18]) kN = some ([(1, .c (.v (yl l))), (12, .c (.v (.sl 5 zs))), (13, iv n), (14, iv i), (18, .c (.v (.agg [q0, q1, q2, q3, .sl 5 kids])))], h) := by kernel_rfl
theorem e61 (n i : Int) (x : AV) : stepK E0 {} Tryz.f186.ntmps noCall (opsOf R6) 1 (o6 1) (S [(1, .c (.v (yl l))), (12, .c (.v (.sl 5 kids))), (13, iv n), (14, iv i), (18, .c (.v x))] h) (kLs [1, 12, 13, 14, 18, 19]) kN = some ([(1, .c (.v (yl l))), (12, .c (.v (.sl 5 kids))), (13, iv n), (14, iv i), (18, .c (.v x)), (19, .c (.v (yl l)))], h) := by kernel_rfl
theorem e63 (n i : Int) (x : AV) (t : Bool) : stepK E0 {} Tryz.f186.ntmps noCall (opsOf R6) 3 (o6 3) { s := upd (lkS [(1, .c (.v (yl l))), (12, .c (.v (.sl 5 kids))), (13, iv n), (14, iv i), (18, .c (.v x)), (19, .c (.v (yl l)))]) 20 (bv t), h := h } (kLs [1, 12, 13, 14, 21]) kN = some ([(1, .c (.v (yl l))), (12, .c (.v (.sl 5 kids))), (13, iv n), (14, iv i), (21, bv (!t))], h) := by cases t <;> kernel_rfl
theorem e7 (st : Nat → Slot) : ev0 [4] R7 { s := st, h := h } = some ([(4, bv false)], h) := by kernel_rfl
theorem e8 (n i : Int) (t : Bool) : ev0 [1, 12, 13, 14] R8 (S [(1, .c (.v (yl l))), (12, .c (.v (.sl 5 kids))), (13, iv n), (14, iv i), (21, bv t)] h) = some ([(1, .c (.v (yl l))), (12, .c (.v (.sl 5 kids))), (13, iv n), (14, iv (IntKind.i64.wrap (i + 1)))], h) := by kernel_rfl
theorem e9 (st : Nat → Slot) : ev0 [4] R9 { s := st, h := h } = some ([(4, bv true)], h) := by kernel_rfl
theorem fin4 (t : Bool) : finish E0 {} Tryz.f186 h (S [(4, bv t)] h) = some (.ret (.lit (.bool t)), h) := by kernel_rfl
end

/-- What a walk promises. -/
def WalkC (cs xs : List AV) : Prop := ∀ (d : Nat) (G : Gh) (w : World) (l : Nat) (rc : Loop) (rd : AV → Heap → Option (Option Code × Heap)) (xv : Value) (h : Heap) (j : Option Code) (h' : Heap), Ready G w l rc → RoundC Tryz.prog l d G w rc rd → RepA G.S w G.μ (.agg cs) xv → RepHeap G w h → Within G w →
  foldR rd xs h = some (j, h') → Calls Tryz.prog 186 #[xv, .func (.yield l) #[] #[]] w (PostY d G w l rc j h')

theorem callable : Callable Tryz.prog 186 := ⟨Tryz.f186, Tryz.func186, by kernel_rfl, rfl⟩

theorem slotA {d nt : Nat} {G0 G : Gh} {w0 w : World} {st : St} {a : Act} (r : RepSt d G w st a.tmps) {i : Nat} {x : AV} (h : st.s i = .c (.v x)) : RepA G.S w G.μ x (a.tmps.getD i undef) := by
  have := r.slot i
  rw [h] at this; exact this

theorem yl_val {S : Nat → Nat} {w : World} {μ : List Nat} {l : Nat} {v : Value} (h : RepA S w μ (yl l) v) : v = .func (.yield l) #[] #[] := h.litE

/-- The end: the result is told. -/
theorem done_ok {d l : Nat} {G0 : Gh} {w0 : World} {rc : Loop} {j : Option Code} {h' : Heap} {a : Act} {w : World} {t : Bool} (ht : t = j.isNone) (hat : AtSt d Tryz.f186.ntmps G0 (endW w0 l rc j) (S [(4, bv t)] h') a w) (hd : a.defers = []) : bodyPost Tryz.prog Tryz.f186 (PostY d G0 w0 l rc j h') .ret a w := by
  obtain ⟨G, r, hnt, hf⟩ := hat
  obtain ⟨v, k1, ⟨G', k2, k3, k4, k5⟩, _⟩ := finish_ok (G0 := G) (w0 := w) okE0 r.heap r (Fr.refl _ _ _) (fin4 h' t)
  have hv : v = .bool t := RepA.litE k5
  refine ⟨hd, v, k1, ?_, G', hf.trans k2, k3, k4⟩
  rw [hv, ht]

theorem loop_ok {n : Nat} (rec : ∀ cs xs, xs.length < n → Tr cs xs → WalkC cs xs) {d l : Nat} {G0 : Gh} {w0 : World} {rc : Loop} {rd : AV → Heap → Option (Option Code × Heap)} {kids : List (List AV)} {j : Option Code} {h' : Heap} (hk : kids.length ≤ 9223372036854775807)
    (rdy : Ready G0 w0 l rc) (rnd : RoundC Tryz.prog l d G0 w0 rc rd) {Q : Exit → Act → World → Prop}
    (hex : j = none → ∀ a w, AtSt d Tryz.f186.ntmps G0 (endW w0 l rc j) (S [(1, .c (.v (yl l)))] h') a w → a.defers = [] → Q (.exit 0) a w)
    (hret : j.isNone = false → ∀ a w, AtSt d Tryz.f186.ntmps G0 (endW w0 l rc j) (S [(4, bv false)] h') a w → a.defers = [] → Q .ret a w) :
    ∀ (m i : Nat) (ys : List AV) (h : Heap) (a : Act) (w : World), TrL (kids.drop i) ys → ys.length < n → i ≤ kids.length → kids.length < m + i → foldR rd ys h = some (j, h') → AtSt d Tryz.f186.ntmps G0 w0 (S [(1, .c (.v (yl l))), (12, .c (.v (.sl 5 kids))), (13, iv kids.length), (14, iv i)] h) a w → a.defers = [] →
      Code.roundsIn (FF none) 0 Tryz.prog lp Q m a w
  | 0, i, ys, h, a, w, _, _, h1, h2, _, _, _ => by omega
  | m + 1, i, ys, h, a, w, tr, hys, h1, h2, hf, hat, hd => by
    rw [roundsIn_succ]
    refine wpIn_seq (seg_keep okE0 (noCall_ok _) (H := HB) (n := 0) (bi := 0) [1, 12, 13, 14, 15] (e4 l kids h kids.length i) hat hd fun a1 w1 hat1 hd1 => ?_)
    obtain ⟨G1, r1, n1, f1⟩ := hat1
    have hb := (slotA (nt := 0) (G0 := G0) (w0 := w0) r1 (i := 15) rfl).litE
    by_cases hi : i < kids.length
    · rw [show decide ((i : Int) < (kids.length : Int)) = true from by simpa using hi] at hb
      refine wpIn_seq (wpIn_cond_true hb (wpIn_skip ?_))
      refine wpIn_seq (wpIn_block ?_)
      have hdr : kids.drop i = kids[i] :: kids.drop (i + 1) := List.drop_eq_getElem_cons hi
      rw [hdr] at tr
      obtain ⟨xs, ys', hxs, htl, rfl⟩ : ∃ xs ys', Tr kids[i] xs ∧ TrL (kids.drop (i + 1)) ys' ∧ ys = xs ++ ys' := by
        generalize kids[i] = e0 at tr; generalize kids.drop (i + 1) = r0 at tr
        cases tr with
        | cons h t => exact ⟨_, _, h, t, rfl⟩
      have hidx : indexA 5 (.sl 5 kids) (.lit (.int .i64 (i : Int))) = some kids[i] := by simp [indexA, slOf, intOf, hi]
      generalize hce : kids[i] = ce at hxs hidx
      have hxs0 := hxs
      obtain ⟨q0, q1, q2, q3, ks, hce2⟩ : ∃ q0 q1 q2 q3 ks, ce = [q0, q1, q2, q3, .sl 5 ks] := by cases hxs; exact ⟨_, _, _, _, _, rfl⟩
      subst hce2
      have k5 := e5 l kids h kids.length i (decide ((i : Int) < (kids.length : Int)))
      rw [hidx] at k5
      refine wpIn_seq (seg_keep okE0 (noCall_ok _) (H := HB) (n := 0) (bi := 0) [1, 12, 13, 14, 6] (h' := h) (l := [(1, .c (.v (yl l))), (12, .c (.v (.sl 5 kids))), (13, iv kids.length), (14, iv i), (6, lc [q0, q1, q2, q3, .sl 5 ks])]) k5 ⟨G1, r1, n1, f1⟩ hd1 fun a2 w2 hat2 hd2 => ?_)
      refine wpIn_seq (wpIn_region ?_)
      change wpOpsIn _ _ _ (opsOf R6) _ [0, 1, 2, 3] _ _
      rw [wpOpsIn_cons]
      refine step_keep okE0 (noCall_ok _) (H := {}) rfl [1, 12, 13, 14, 18] (e60 l q0 q1 q2 q3 ks h kids.length i kids) hat2 hd2 fun a3 w3 hat3 hd3 => ?_
      rw [wpOpsIn_cons]
      refine step_keep okE0 (noCall_ok _) (H := {}) rfl [1, 12, 13, 14, 18, 19] (e61 l kids h kids.length i (.agg [q0, q1, q2, q3, .sl 5 ks])) hat3 hd3 fun a4 w4 hat4 hd4 => ?_
      rw [wpOpsIn_cons]
      obtain ⟨G4, r4, n4, f4⟩ := hat4
      have rdy4 := rdy.later f4
      have v18 := slotA (nt := 0) (G0 := G0) (w0 := w0) r4 (i := 18) rfl
      have v19 := yl_val (slotA (nt := 0) (G0 := G0) (w0 := w0) r4 (i := 19) rfl)
      have hlen : xs.length < n := by rw [List.length_append] at hys; omega
      have step : ∀ (jj : Option Code) (hh : Heap), foldR rd xs h = some (jj, hh) → ∀ (K : Act → World → Prop) (Q : Exit → Act → World → Prop), (∀ a' G' w', RepSt d G' w' { s := upd (lkS [(1, .c (.v (yl l))), (12, .c (.v (.sl 5 kids))), (13, iv kids.length), (14, iv i), (18, .c (.v (.agg [q0, q1, q2, q3, .sl 5 ks]))), (19, .c (.v (yl l)))]) 20 (bv jj.isNone), h := hh } a'.tmps → a'.tmps.size = Tryz.f186.ntmps → a'.defers = a4.defers → Fr d G4 (endW w4 l rc jj) G' w' → K a' w') →
          wpOpIn (FF none) 0 Tryz.prog (opsOf R6) Q 2 K a4 w4 := by
        intro jj hh hfo K Q hK
        refine step_hand (o := o6 2) (nt := Tryz.f186.ntmps) (st := S _ h) rfl rfl rfl (fun c hc => by cases hc) (by decide) rfl r4 n4 rdy4 (.inl ⟨186, #[a4.tmps.getD 18 undef, .func (.yield l) #[] #[]], ?_, ?_⟩) hK
        · have := run_call (a := a4) (w := w4) Tryz.prog (o := o6 2) rfl rfl (f := 186) (fv := #[]) (cv := #[]) rfl callable
          rw [this]
          have e19 : a4.eval (.tmp 19) = .func (.yield l) #[] #[] := v19
          simp only [Array.map, Array.append_empty, Array.empty_append]
          congr 2
          show (#[.tmp 18, .tmp 19] : Array Operand).map a4.eval = _
          simp only [List.map_toArray, List.map_cons, List.map_nil, e19]
          rfl
        · exact rec _ xs hlen hxs0 (d + 1) G4 w4 l rc rd _ h jj hh rdy4 (rnd.later (Nat.le_succ d) f4 ) v18 r4.heap r4.within hfo
      rcases foldR_append hf with ⟨h3, k1, k2⟩ | ⟨c, k1, k2⟩
      · refine step none h3 k1 _ _ fun a5 G5 w5 r5 n5 d5 f5 => ?_
        rw [endW_none rdy4] at f5
        rw [wpOpsIn_cons]
        refine step_keep okE0 (noCall_ok _) (H := {}) rfl [1, 12, 13, 14, 21] (e63 l kids h3 kids.length i (.agg [q0, q1, q2, q3, .sl 5 ks]) true) ⟨G5, r5, n5, f4.trans f5⟩ (d5.trans hd4) fun a6 w6 hat6 hd6 => ?_
        obtain ⟨G6, r6, n6, f6⟩ := hat6
        refine wpIn_cond_false (slotA (nt := 0) (G0 := G0) (w0 := w0) r6 (i := 21) rfl).litE (wpIn_skip ?_)
        refine seg_keep okE0 (noCall_ok _) (H := HB) (n := 0) (bi := 0) [1, 12, 13, 14] (e8 l kids h3 kids.length i false) ⟨G6, r6, n6, f6⟩ hd6 fun a7 w7 hat7 hd7 => ?_
        rw [IntWalk.i64_in ((i : Int) + 1) (by omega)] at hat7
        exact loop_ok rec hk rdy rnd hex hret m (i + 1) ys' h3 a7 w7 htl (by rw [List.length_append] at hys; omega) hi (by omega) k2 hat7 hd7
      · have k2 : j = some c := k2
        subst k2
        refine step (some c) h' k1 _ _ fun a5 G5 w5 r5 n5 d5 f5 => ?_
        rw [wpOpsIn_cons]
        have f45 : Fr d G0 (endW w0 l rc (some c)) G5 w5 := (f4.put rdy.there rdy.own).trans f5
        refine step_keep okE0 (noCall_ok _) (H := {}) rfl [1, 12, 13, 14, 21] (e63 l kids h' kids.length i (.agg [q0, q1, q2, q3, .sl 5 ks]) false) ⟨G5, r5, n5, f45⟩ (d5.trans hd4) fun a6 w6 hat6 hd6 => ?_
        obtain ⟨G6, r6, n6, f6⟩ := hat6
        refine wpIn_cond_true (slotA (nt := 0) (G0 := G0) (w0 := w0) r6 (i := 21) rfl).litE ?_
        refine wpIn_seq (seg_keep okE0 (noCall_ok _) (H := HB) (n := 0) (bi := 0) [4] (e7 h' _) ⟨G6, r6, n6, f6⟩ hd6 fun a7 w7 hat7 hd7 => ?_)
        exact wpIn_ret (hret rfl a7 w7 hat7 hd7)
    · rw [show decide ((i : Int) < (kids.length : Int)) = false from by simpa using hi] at hb
      refine wpIn_seq (wpIn_cond_false hb (wpIn_exit ?_))
      have hdr : kids.drop i = [] := List.drop_eq_nil_of_le (by omega)
      rw [hdr] at tr
      cases tr
      have e := Prod.mk.inj (Option.some.inj hf)
      obtain ⟨ej, eh⟩ := e
      subst ej; subst eh
      refine hex rfl a1 w1 ?_ hd1
      rw [endW_none rdy]
      obtain ⟨_, rk, nk, fk⟩ := AtSt.keep (some [1]) ⟨G1, r1, n1, f1⟩
      exact ⟨_, rk, nk, fk⟩

theorem walk_ok : ∀ (n : Nat) (cs xs : List AV), xs.length < n → Tr cs xs → WalkC cs xs
  | 0, cs, xs, h, _ => by omega
  | n + 1, cs, xs, hlt, tr => by
    intro d G0 w0 l rc rd xv h j h' rdy rnd hx hh hw hf
    cases tr with
    | mk hk hl =>
    rename_i q0 q1 q2 q3 kids xs
    refine calls_of_wp Tryz.func186 rfl ?_
    refine (wpIn_wide (n := 0)).1 ?_
    have hat : AtSt d Tryz.f186.ntmps G0 w0 (S [(0, .c (.v (.agg [q0, q1, q2, q3, .sl 5 kids]))), (1, .c (.v (yl l)))] h) { tmps := #[xv, .func (.yield l) #[] #[]] ++ Array.replicate (Tryz.f186.ntmps - 2) undef, defers := [] } w0 := by
      refine ⟨G0, ⟨fun i => rep_two rfl rfl hx (.lit rfl) _ i, fun u t off hu => ?_, hh, hw⟩, by rw [Array.size_append, Array.size_replicate]; rfl, Fr.refl _ _ _⟩
      exfalso
      rcases u with _ | _ | u
      · cases hu
      · cases hu
      · cases hu
    refine wpIn_seq (seg_keep okE0 (noCall_ok _) (H := HB) (n := 0) (bi := 0) [1, 2] (e0 l q0 q1 q2 q3 kids h) hat rfl fun a1 w1 hat1 hd1 => ?_)
    refine wpIn_seq (wpIn_seq (wpIn_region ?_))
    change wpOpsIn _ _ _ (opsOf R1) _ [0, 1, 2, 3] _ _
    rw [wpOpsIn_cons]
    refine step_keep okE0 (noCall_ok _) (H := {}) rfl [1, 2, 7] (e10 l q0 q1 q2 q3 kids h) hat1 hd1 fun a3 w3 hat3 hd3 => ?_
    rw [wpOpsIn_cons]
    refine step_keep okE0 (noCall_ok _) (H := {}) rfl [1, 2, 7, 8] (e11 l q0 q1 q2 q3 kids h) hat3 hd3 fun a4 w4 hat4 hd4 => ?_
    rw [wpOpsIn_cons]
    obtain ⟨G4, r4, n4, f4⟩ := hat4
    have rdy4 := rdy.later f4
    have v8 := slotA (nt := 0) (G0 := G0) (w0 := w0) r4 (i := 8) rfl
    have v7 := yl_val (slotA (nt := 0) (G0 := G0) (w0 := w0) r4 (i := 7) rfl)
    have step : ∀ (jj : Option Code) (hh : Heap), rd (.agg [q0, q1, q2, q3, .sl 5 kids]) h = some (jj, hh) → ∀ (K : Act → World → Prop) (Q : Exit → Act → World → Prop), (∀ a' G' w', RepSt d G' w' { s := upd (lkS [(1, .c (.v (yl l))), (2, lc [q0, q1, q2, q3, .sl 5 kids]), (7, .c (.v (yl l))), (8, .c (.v (.agg [q0, q1, q2, q3, .sl 5 kids])))]) 9 (bv jj.isNone), h := hh } a'.tmps → a'.tmps.size = Tryz.f186.ntmps → a'.defers = a4.defers → Fr d G4 (endW w4 l rc jj) G' w' → K a' w') →
        wpOpIn (FF none) 0 Tryz.prog (opsOf R1) Q 2 K a4 w4 := by
      intro jj hh hfo K Q hK
      obtain ⟨fn, tmps, assign, body, y1, y2⟩ := rnd 0 (d + 1) G4 w4 (.agg [q0, q1, q2, q3, .sl 5 kids]) (a4.tmps.getD 8 undef) h jj hh (Nat.le_succ d) f4 v8 r4.heap r4.within hfo
      refine step_hand (o := o1 2) (nt := Tryz.f186.ntmps) (st := S _ h) rfl rfl rfl (fun c hc => by cases hc) (by decide) rfl r4 n4 rdy4 (.inr ⟨l, fn, tmps, assign, body, ?_, y2⟩) hK
      exact run_yieldOp (a := a4) (w := w4) Tryz.prog (o := o1 2) rfl rfl v7 (by
        show (Instr.yield l ((#[.tmp 8] : Array Operand).map a4.eval)).run Tryz.prog w4 = _
        simp only [List.map_toArray, List.map_cons, List.map_nil]
        exact y1)
    rcases foldR_cons hf with ⟨h3, k1, k2⟩ | ⟨c, k1, k2⟩
    · refine step none h3 k1 _ _ fun a5 G5 w5 r5 n5 d5 f5 => ?_
      rw [endW_none rdy4] at f5
      rw [wpOpsIn_cons]
      refine step_keep okE0 (noCall_ok _) (H := {}) rfl [1, 2, 10] (e13 l q0 q1 q2 q3 kids h3 true) ⟨G5, r5, n5, f4.trans f5⟩ (d5.trans hd4) fun a6 w6 hat6 hd6 => ?_
      obtain ⟨G6, r6, n6, f6⟩ := hat6
      refine wpIn_cond_false (slotA (nt := 0) (G0 := G0) (w0 := w0) r6 (i := 10) rfl).litE (wpIn_skip ?_)
      refine wpIn_seq (wpIn_seq (seg_keep okE0 (noCall_ok _) (H := HB) (n := 0) (bi := 0) [1, 12, 13, 14] (e3 l q0 q1 q2 q3 kids h3 false) ⟨G6, r6, n6, f6⟩ hd6 fun a7 w7 hat7 hd7 => ?_))
      refine wpIn_block (wpIn_loop_rounds (kids.length + 1) ?_)
      refine loop_ok (walk_ok n) hl rdy rnd ?_ ?_ (kids.length + 1) 0 xs h3 a7 w7 (by rw [List.drop_zero]; exact hk) (by simp only [List.length_cons] at hlt; omega) (Nat.zero_le _) (by omega) k2 hat7 hd7
      · intro hj a w hat hd
        show Code.wpIn (FF none) 0 Tryz.prog (pR tl) (bodyPost Tryz.prog Tryz.f186 (PostY d G0 w0 l rc j h')) a w
        refine wpIn_seq (seg_keep okE0 (noCall_ok _) (H := HB) (n := 0) (bi := 0) [4] (e9 h' _) hat hd fun a8 w8 hat8 hd8 => ?_)
        exact wpIn_ret (done_ok (by rw [hj]; rfl) hat8 hd8)
      · intro hj a w hat hd
        exact done_ok hj.symm hat hd
    · have k2 : j = some c := k2
      subst k2
      refine step (some c) h' k1 _ _ fun a5 G5 w5 r5 n5 d5 f5 => ?_
      rw [wpOpsIn_cons]
      have f45 : Fr d G0 (endW w0 l rc (some c)) G5 w5 := (f4.put rdy.there rdy.own).trans f5
      refine step_keep okE0 (noCall_ok _) (H := {}) rfl [1, 2, 10] (e13 l q0 q1 q2 q3 kids h' false) ⟨G5, r5, n5, f45⟩ (d5.trans hd4) fun a6 w6 hat6 hd6 => ?_
      obtain ⟨G6, r6, n6, f6⟩ := hat6
      refine wpIn_cond_true (slotA (nt := 0) (G0 := G0) (w0 := w0) r6 (i := 10) rfl).litE ?_
      refine wpIn_seq (seg_keep okE0 (noCall_ok _) (H := HB) (n := 0) (bi := 0) [4] (e2 h' _) ⟨G6, r6, n6, f6⟩ hd6 fun a7 w7 hat7 hd7 => ?_)
      exact wpIn_ret (done_ok rfl hat7 hd7)

/- the iterator: a closure that goes on to the walk -/
noncomputable def it : Code := Tryz.f185.body.getD .skip
noncomputable def oi (i : Nat) : Oper := (opsOf it).getD i default
abbrev HI : FHint := { hp := [1] }
theorem i0 (l i : Nat) (h : Heap) : stepK E0 HI Tryz.f185.ntmps noCall (opsOf it) 0 (oi 0) (S [(0, .c (.v (yl l))), (1, .c (.v (.hp i 0)))] h) (kLs [0, 3]) kN = (hpart true 5 0 i h).bind fun v => some ([(0, .c (.v (yl l))), (3, .c (.v v))], h) := by kernel_rfl
theorem i1 (l : Nat) (x : AV) (h : Heap) : stepK E0 HI Tryz.f185.ntmps noCall (opsOf it) 1 (oi 1) (S [(0, .c (.v (yl l))), (3, .c (.v x))] h) (kLs [3, 4]) kN = some ([(3, .c (.v x)), (4, .c (.v (yl l)))], h) := by kernel_rfl
theorem ifin (st : Nat → Slot) (h : Heap) : finish E0 {} Tryz.f185 h { s := st, h := h } = some (.ret (.tup []), h) := by kernel_rfl

theorem iter_ok {cs xs : List AV} {h : Heap} {i : Nat} (tr : Tr cs xs) (hi : (h[i]?).map (·.map Cell.get) = some cs) : IterC Tryz.prog 185 [.hp i 0] xs h := by
  refine ⟨⟨Tryz.f185, Tryz.func185, by kernel_rfl, rfl⟩, fun d G w l rc rd cv j h' rdy rnd hcv hh hw hf => ?_⟩
  obtain ⟨l0⟩ := cv
  have hcv : RepL G.S w G.μ [.hp i 0] l0 := hcv
  obtain ⟨x1, rfl⟩ : ∃ x, l0 = [x] := by cases hcv with | cons h t => cases t; exact ⟨_, rfl⟩
  have hx : RepA G.S w G.μ (.hp i 0) x1 := by cases hcv with | cons h _ => exact h
  refine calls_of_wp Tryz.func185 rfl ?_
  refine (wpIn_wide (n := 0)).1 ?_
  have hat : AtSt d Tryz.f185.ntmps G w (S [(0, .c (.v (yl l))), (1, .c (.v (.hp i 0)))] h) { tmps := #[.func (.yield l) #[] #[], x1] ++ Array.replicate (Tryz.f185.ntmps - 2) undef, defers := [] } w := by
    refine ⟨G, ⟨fun i => rep_two rfl rfl (.lit rfl) hx _ i, fun u t off hu => ?_, hh, hw⟩, by rw [Array.size_append, Array.size_replicate]; rfl, Fr.refl _ _ _⟩
    exfalso
    rcases u with _ | _ | u
    · cases hu
    · cases hu
    · cases hu
  refine wpIn_region ?_
  change wpOpsIn _ _ _ (opsOf it) _ [0, 1, 2] _ _
  rw [wpOpsIn_cons]
  have hp : hpart true 5 0 i h = some (.agg cs) := by
    obtain ⟨c0, h1, h2⟩ := Option.map_eq_some_iff.1 hi
    unfold hpart
    rw [h1, Option.bind_some, h2]
    unfold partG
    rw [show cs.isEmpty = false from by cases cs with | nil => exact absurd tr.len (by simp) | cons _ _ => rfl, cond_false]
    exact partAll tr.len
  have k0 := i0 l i h
  rw [hp] at k0
  refine step_keep okE0 (noCall_ok _) (H := HI) rfl [0, 3] (l := [(0, .c (.v (yl l))), (3, .c (.v (.agg cs)))]) (h' := h) k0 hat rfl fun a3 w3 hat3 hd3 => ?_
  rw [wpOpsIn_cons]
  refine step_keep okE0 (noCall_ok _) (H := HI) rfl [3, 4] (i1 l (.agg cs) h) hat3 hd3 fun a4 w4 hat4 hd4 => ?_
  rw [wpOpsIn_cons]
  obtain ⟨G4, r4, n4, f4⟩ := hat4
  have rdy4 := rdy.later f4
  have v3 := slotA (nt := 0) (G0 := G) (w0 := w) r4 (i := 3) rfl
  have v4 := yl_val (slotA (nt := 0) (G0 := G) (w0 := w) r4 (i := 4) rfl)
  refine step_hand (o := oi 2) (nt := Tryz.f185.ntmps) (st := S _ h) rfl rfl rfl (fun c hc => by cases hc) (by decide) rfl r4 n4 rdy4 (j := j) (h' := h') (.inl ⟨186, #[a4.tmps.getD 3 undef, .func (.yield l) #[] #[]], ?_, ?_⟩) fun a5 G5 w5 r5 n5 d5 f5 => ?_
  · have := run_call (a := a4) (w := w4) Tryz.prog (o := oi 2) rfl rfl (f := 186) (fv := #[]) (cv := #[]) rfl callable
    rw [this]
    have e4 : a4.eval (.tmp 4) = .func (.yield l) #[] #[] := v4
    simp only [Array.map, Array.append_empty, Array.empty_append]
    congr 2
    show (#[.tmp 3, .tmp 4] : Array Operand).map a4.eval = _
    simp only [List.map_toArray, List.map_cons, List.map_nil, e4]
    rfl
  · exact walk_ok _ _ xs (Nat.lt_succ_self _) tr (d + 1) G4 w4 l rc rd _ h j h' rdy4 (rnd.later (Nat.le_succ d) f4) v3 r4.heap r4.within hf
  · obtain ⟨v, k1, ⟨G', k2, k3, k4, k5⟩, _⟩ := finish_ok (G0 := G5) (w0 := w5) okE0 r5.heap r5 (Fr.refl _ _ _) (ifin _ h')
    exact ⟨d5.trans hd4, v, k1, ⟨v, rfl⟩, G', ((f4.put rdy.there rdy.own).trans f5).trans k2, k3, k4⟩
end W34
end Go.Sh.T

/- name.shape: a range over a string, by its shadow. -/
namespace Go.Sh.T
set_option maxRecDepth 100000
set_option linter.unusedVariables false
set_option linter.unusedSimpArgs false
open Go Go.Sh Go.Proofs

/- what is told of bytes -/
def lowB (c : Int) : Bool := bif decide (c ≥ 97) then decide (c ≤ 122) else false
def upB (c : Int) : Bool := bif decide (c ≥ 65) then decide (c ≤ 90) else false
def digB (c : Int) : Bool := bif decide (c ≥ 48) then decide (c ≤ 57) else false
def bytes (s : ByteArray) : List UInt8 := s.data.toList
theorem bytes_len (s : ByteArray) : (bytes s).length = s.size := by unfold bytes; exact Array.length_toList

namespace P176
theorem noPrims0 : PrimsOk E0 := fun f p h => by cases h
noncomputable def call0 : Nat → List AV → Heap → R := ev E0 3
theorem call0_ok : SoundC Tryz.prog call0 := ev_ok okE0 noPrims0 3
theorem low0 (c : Int) (h : Heap) : call0 224 [.lit (.int .i32 c)] h = some (.ret (.lit (.bool (lowB c))), h) := by
  have : call0 224 [.lit (.int .i32 c)] h = cond (decide (c ≥ 97)) (some (.ret (.lit (.bool (decide (c ≤ 122)))), h)) (some (.ret (.lit (.bool false)), h)) := by kernel_rfl
  rw [this]; unfold lowB; cases decide (c ≥ 97) <;> rfl
theorem up0 (c : Int) (h : Heap) : call0 225 [.lit (.int .i32 c)] h = some (.ret (.lit (.bool (upB c))), h) := by
  have : call0 225 [.lit (.int .i32 c)] h = cond (decide (c ≥ 65)) (some (.ret (.lit (.bool (decide (c ≤ 90)))), h)) (some (.ret (.lit (.bool false)), h)) := by kernel_rfl
  rw [this]; unfold upB; cases decide (c ≥ 65) <;> rfl
theorem dig0 (c : Int) (h : Heap) : call0 226 [.lit (.int .i32 c)] h = some (.ret (.lit (.bool (digB c))), h) := by
  have : call0 226 [.lit (.int .i32 c)] h = cond (decide (c ≥ 48)) (some (.ret (.lit (.bool (decide (c ≤ 57)))), h)) (some (.ret (.lit (.bool false)), h)) := by kernel_rfl
  rw [this]; unfold digB; cases decide (c ≥ 48) <;> rfl

def pL : Code → Code
  | .seq a _ => a
  | .block _ c => c
  | .loop c => c
  | .cond _ a _ => a
  | c => c
def pR : Code → Code
  | .seq _ b => b
  | .cond _ _ b => b
  | c => c
def opsOf : Code → Array Oper
  | .region _ ops _ => ops
  | _ => #[]
noncomputable def body : Code := Tryz.f176.body.getD .skip
noncomputable def R0 := pL body
noncomputable def R1 := pL (pL (pR body))
noncomputable def R2 := pL (pL (pR (pL (pR body))))
noncomputable def R3 := pL (pR (pR body))
noncomputable def t4 := pR (pR (pR body))
noncomputable def R4 := pL (pL t4)
noncomputable def lp := pL (pL (pR (pL t4)))
noncomputable def R5 := pL lp
noncomputable def b1 := pR (pR lp)
noncomputable def R14 := pL (pR t4)
noncomputable def o4 (i : Nat) : Oper := (opsOf R4).getD i default
noncomputable def o5 (i : Nat) : Oper := (opsOf R5).getD i default
abbrev S (l : List (Nat × Slot)) (h : Heap) : St := { s := lkS l, h := h }
noncomputable abbrev ev0 (L : List Nat) (c : Code) (st : St) : Option (List (Nat × Slot) × Heap) := evC E0 {} Tryz.f176.ntmps call0 0 c 0 st (kL L) kN
abbrev iv (i : Int) : Slot := .c (.v (.lit (.int .i64 i)))
abbrev bv (b : Bool) : Slot := .c (.v (.lit (.bool b)))
abbrev sv (s : ByteArray) : Slot := .c (.v (.lit (.string s)))
abbrev pv (k : Nat) : Slot := .c (.v (.lit (.pointer (some ⟨k, 0, none⟩))))

/-- What a round's body comes to. -/
def kS : Ex → St → Option ((AV × AV × Heap) ⊕ (AV × Heap))
  | .normal, st => ((st.s 3).av).bind fun a => ((st.s 10).av).bind fun b => some (.inl (a, b, st.h))
  | .ret, st => ((st.s 2).av).bind fun a => some (.inr (a, st.h))
  | _, _ => none
theorem b1nf (h : Heap) (x3 x10 x13 x14 : AV) : evC E0 {} Tryz.f176.ntmps call0 0 b1 0 (S [(3, .c (.v x3)), (10, .c (.v x10)), (11, .c (.v (.tup [.lit (.bool true), x13, x14])))] h) kS kN = (binAV E0 .eql 3 x13 (.lit (.int .i64 0))).bind fun r1 => (boolOf r1).bind fun b2 => cond b2 (onOut (call0 224 [x14] h) (fun a3 h4 => (boolOf a3).bind fun b5 => cond b5 (some (.inl (.lit (.int .i64 1), x10, h4))) ((binAV E0 .eql 3 x13 (.lit (.int .i64 0))).bind fun r6 => (boolOf r6).bind fun b7 => cond b7 (onOut (call0 225 [x14] h4) (fun a8 h9 => (boolOf a8).bind fun b10 => cond b10 (some (.inl (.lit (.int .i64 2), x10, h9))) ((binAV E0 .gtr 3 x13 (.lit (.int .i64 0))).bind fun r11 => (boolOf r11).bind fun b12 => cond b12 ((binAV E0 .neq 3 x3 (.lit (.int .i64 0))).bind fun r13 => (boolOf r13).bind fun b14 => cond b14 (onOut (call0 224 [x14] h9) (fun a15 h16 => (boolOf a15).bind fun b17 => cond b17 (some (.inl (x3, x10, h16))) (onOut (call0 226 [x14] h16) (fun a18 h19 => (boolOf a18).bind fun b20 => cond b20 (some (.inl (x3, x10, h19))) ((binAV E0 .gtr 3 x13 (.lit (.int .i64 0))).bind fun r21 => (boolOf r21).bind fun b22 => cond b22 ((binAV E0 .eql 3 x3 (.lit (.int .i64 2))).bind fun r23 => (boolOf r23).bind fun b24 => cond b24 (onOut (call0 225 [x14] h19) (fun a25 h26 => (boolOf a25).bind fun b27 => cond b27 (some (.inl (x3, x10, h26))) (some (.inr (.lit (.int .i64 0), h26)))) (fun _ _ _ => none) (fun _ _ => none)) (some (.inr (.lit (.int .i64 0), h19)))) (some (.inr (.lit (.int .i64 0), h19))))) (fun _ _ _ => none) (fun _ _ => none))) (fun _ _ _ => none) (fun _ _ => none)) ((binAV E0 .gtr 3 x13 (.lit (.int .i64 0))).bind fun r28 => (boolOf r28).bind fun b29 => cond b29 ((binAV E0 .eql 3 x3 (.lit (.int .i64 2))).bind fun r30 => (boolOf r30).bind fun b31 => cond b31 (onOut (call0 225 [x14] h9) (fun a32 h33 => (boolOf a32).bind fun b34 => cond b34 (some (.inl (x3, x10, h33))) (some (.inr (.lit (.int .i64 0), h33)))) (fun _ _ _ => none) (fun _ _ => none)) (some (.inr (.lit (.int .i64 0), h9)))) (some (.inr (.lit (.int .i64 0), h9))))) ((binAV E0 .gtr 3 x13 (.lit (.int .i64 0))).bind fun r35 => (boolOf r35).bind fun b36 => cond b36 ((binAV E0 .eql 3 x3 (.lit (.int .i64 2))).bind fun r37 => (boolOf r37).bind fun b38 => cond b38 (onOut (call0 225 [x14] h9) (fun a39 h40 => (boolOf a39).bind fun b41 => cond b41 (some (.inl (x3, x10, h40))) (some (.inr (.lit (.int .i64 0), h40)))) (fun _ _ _ => none) (fun _ _ => none)) (some (.inr (.lit (.int .i64 0), h9)))) (some (.inr (.lit (.int .i64 0), h9)))))) (fun _ _ _ => none) (fun _ _ => none)) ((binAV E0 .gtr 3 x13 (.lit (.int .i64 0))).bind fun r42 => (boolOf r42).bind fun b43 => cond b43 ((binAV E0 .neq 3 x3 (.lit (.int .i64 0))).bind fun r44 => (boolOf r44).bind fun b45 => cond b45 (onOut (call0 224 [x14] h4) (fun a46 h47 => (boolOf a46).bind fun b48 => cond b48 (some (.inl (x3, x10, h47))) (onOut (call0 226 [x14] h47) (fun a49 h50 => (boolOf a49).bind fun b51 => cond b51 (some (.inl (x3, x10, h50))) ((binAV E0 .gtr 3 x13 (.lit (.int .i64 0))).bind fun r52 => (boolOf r52).bind fun b53 => cond b53 ((binAV E0 .eql 3 x3 (.lit (.int .i64 2))).bind fun r54 => (boolOf r54).bind fun b55 => cond b55 (onOut (call0 225 [x14] h50) (fun a56 h57 => (boolOf a56).bind fun b58 => cond b58 (some (.inl (x3, x10, h57))) (some (.inr (.lit (.int .i64 0), h57)))) (fun _ _ _ => none) (fun _ _ => none)) (some (.inr (.lit (.int .i64 0), h50)))) (some (.inr (.lit (.int .i64 0), h50))))) (fun _ _ _ => none) (fun _ _ => none))) (fun _ _ _ => none) (fun _ _ => none)) ((binAV E0 .gtr 3 x13 (.lit (.int .i64 0))).bind fun r59 => (boolOf r59).bind fun b60 => cond b60 ((binAV E0 .eql 3 x3 (.lit (.int .i64 2))).bind fun r61 => (boolOf r61).bind fun b62 => cond b62 (onOut (call0 225 [x14] h4) (fun a63 h64 => (boolOf a63).bind fun b65 => cond b65 (some (.inl (x3, x10, h64))) (some (.inr (.lit (.int .i64 0), h64)))) (fun _ _ _ => none) (fun _ _ => none)) (some (.inr (.lit (.int .i64 0), h4)))) (some (.inr (.lit (.int .i64 0), h4))))) ((binAV E0 .gtr 3 x13 (.lit (.int .i64 0))).bind fun r66 => (boolOf r66).bind fun b67 => cond b67 ((binAV E0 .eql 3 x3 (.lit (.int .i64 2))).bind fun r68 => (boolOf r68).bind fun b69 => cond b69 (onOut (call0 225 [x14] h4) (fun a70 h71 => (boolOf a70).bind fun b72 => cond b72 (some (.inl (x3, x10, h71))) (some (.inr (.lit (.int .i64 0), h71)))) (fun _ _ _ => none) (fun _ _ => none)) (some (.inr (.lit (.int .i64 0), h4)))) (some (.inr (.lit (.int .i64 0), h4))))))) (fun _ _ _ => none) (fun _ _ => none)) ((binAV E0 .eql 3 x13 (.lit (.int .i64 0))).bind fun r73 => (boolOf r73).bind fun b74 => cond b74 (onOut (call0 225 [x14] h) (fun a75 h76 => (boolOf a75).bind fun b77 => cond b77 (some (.inl (.lit (.int .i64 2), x10, h76))) ((binAV E0 .gtr 3 x13 (.lit (.int .i64 0))).bind fun r78 => (boolOf r78).bind fun b79 => cond b79 ((binAV E0 .neq 3 x3 (.lit (.int .i64 0))).bind fun r80 => (boolOf r80).bind fun b81 => cond b81 (onOut (call0 224 [x14] h76) (fun a82 h83 => (boolOf a82).bind fun b84 => cond b84 (some (.inl (x3, x10, h83))) (onOut (call0 226 [x14] h83) (fun a85 h86 => (boolOf a85).bind fun b87 => cond b87 (some (.inl (x3, x10, h86))) ((binAV E0 .gtr 3 x13 (.lit (.int .i64 0))).bind fun r88 => (boolOf r88).bind fun b89 => cond b89 ((binAV E0 .eql 3 x3 (.lit (.int .i64 2))).bind fun r90 => (boolOf r90).bind fun b91 => cond b91 (onOut (call0 225 [x14] h86) (fun a92 h93 => (boolOf a92).bind fun b94 => cond b94 (some (.inl (x3, x10, h93))) (some (.inr (.lit (.int .i64 0), h93)))) (fun _ _ _ => none) (fun _ _ => none)) (some (.inr (.lit (.int .i64 0), h86)))) (some (.inr (.lit (.int .i64 0), h86))))) (fun _ _ _ => none) (fun _ _ => none))) (fun _ _ _ => none) (fun _ _ => none)) ((binAV E0 .gtr 3 x13 (.lit (.int .i64 0))).bind fun r95 => (boolOf r95).bind fun b96 => cond b96 ((binAV E0 .eql 3 x3 (.lit (.int .i64 2))).bind fun r97 => (boolOf r97).bind fun b98 => cond b98 (onOut (call0 225 [x14] h76) (fun a99 h100 => (boolOf a99).bind fun b101 => cond b101 (some (.inl (x3, x10, h100))) (some (.inr (.lit (.int .i64 0), h100)))) (fun _ _ _ => none) (fun _ _ => none)) (some (.inr (.lit (.int .i64 0), h76)))) (some (.inr (.lit (.int .i64 0), h76))))) ((binAV E0 .gtr 3 x13 (.lit (.int .i64 0))).bind fun r102 => (boolOf r102).bind fun b103 => cond b103 ((binAV E0 .eql 3 x3 (.lit (.int .i64 2))).bind fun r104 => (boolOf r104).bind fun b105 => cond b105 (onOut (call0 225 [x14] h76) (fun a106 h107 => (boolOf a106).bind fun b108 => cond b108 (some (.inl (x3, x10, h107))) (some (.inr (.lit (.int .i64 0), h107)))) (fun _ _ _ => none) (fun _ _ => none)) (some (.inr (.lit (.int .i64 0), h76)))) (some (.inr (.lit (.int .i64 0), h76)))))) (fun _ _ _ => none) (fun _ _ => none)) ((binAV E0 .gtr 3 x13 (.lit (.int .i64 0))).bind fun r109 => (boolOf r109).bind fun b110 => cond b110 ((binAV E0 .neq 3 x3 (.lit (.int .i64 0))).bind fun r111 => (boolOf r111).bind fun b112 => cond b112 (onOut (call0 224 [x14] h) (fun a113 h114 => (boolOf a113).bind fun b115 => cond b115 (some (.inl (x3, x10, h114))) (onOut (call0 226 [x14] h114) (fun a116 h117 => (boolOf a116).bind fun b118 => cond b118 (some (.inl (x3, x10, h117))) ((binAV E0 .gtr 3 x13 (.lit (.int .i64 0))).bind fun r119 => (boolOf r119).bind fun b120 => cond b120 ((binAV E0 .eql 3 x3 (.lit (.int .i64 2))).bind fun r121 => (boolOf r121).bind fun b122 => cond b122 (onOut (call0 225 [x14] h117) (fun a123 h124 => (boolOf a123).bind fun b125 => cond b125 (some (.inl (x3, x10, h124))) (some (.inr (.lit (.int .i64 0), h124)))) (fun _ _ _ => none) (fun _ _ => none)) (some (.inr (.lit (.int .i64 0), h117)))) (some (.inr (.lit (.int .i64 0), h117))))) (fun _ _ _ => none) (fun _ _ => none))) (fun _ _ _ => none) (fun _ _ => none)) ((binAV E0 .gtr 3 x13 (.lit (.int .i64 0))).bind fun r126 => (boolOf r126).bind fun b127 => cond b127 ((binAV E0 .eql 3 x3 (.lit (.int .i64 2))).bind fun r128 => (boolOf r128).bind fun b129 => cond b129 (onOut (call0 225 [x14] h) (fun a130 h131 => (boolOf a130).bind fun b132 => cond b132 (some (.inl (x3, x10, h131))) (some (.inr (.lit (.int .i64 0), h131)))) (fun _ _ _ => none) (fun _ _ => none)) (some (.inr (.lit (.int .i64 0), h)))) (some (.inr (.lit (.int .i64 0), h))))) ((binAV E0 .gtr 3 x13 (.lit (.int .i64 0))).bind fun r133 => (boolOf r133).bind fun b134 => cond b134 ((binAV E0 .eql 3 x3 (.lit (.int .i64 2))).bind fun r135 => (boolOf r135).bind fun b136 => cond b136 (onOut (call0 225 [x14] h) (fun a137 h138 => (boolOf a137).bind fun b139 => cond b139 (some (.inl (x3, x10, h138))) (some (.inr (.lit (.int .i64 0), h138)))) (fun _ _ _ => none) (fun _ _ => none)) (some (.inr (.lit (.int .i64 0), h)))) (some (.inr (.lit (.int .i64 0), h)))))) := by kernel_rfl

/-- One round, of plain values: the next kind; none: no name. -/
def stepP (z : Bool) (k c : Int) : Option Int :=
  bif z && lowB c then some 1 else bif z && upB c then some 2 else bif !z && (k != 0 && (lowB c || digB c)) then some k else bif !z && (k == 2 && upB c) then some k else none
def outP (q : Nat) (h : Heap) (r : Option Int) : (AV × AV × Heap) ⊕ (AV × Heap) := match r with
  | some k => .inl (.lit (.int .i64 k), .lit (.pointer (some ⟨q, 0, none⟩)), h)
  | none => .inr (.lit (.int .i64 0), h)

theorem body_ok (h : Heap) (k c : Int) (i q : Nat) (b : Bool) : evC E0 {} Tryz.f176.ntmps call0 0 b1 0 (S [(3, iv k), (10, pv q), (11, .c (.v (.tup [.lit (.bool true), .lit (.int .i64 (i : Int)), .lit (.int .i32 c)])))] h) kS kN = some (outP q h (stepP (i == 0) k c)) := by
  rw [b1nf]
  have e1 : (((i : Int) == 0)) = (i == 0) := by rw [Bool.eq_iff_iff]; simp
  have e2 : decide ((i : Int) > 0) = !(i == 0) := by rw [Bool.eq_iff_iff]; simp; omega
  simp only [bin_int, eqlI, neqI, gtrI, bind_some', boolB, low0, up0, dig0, onOut_ret, e1, e2]
  unfold stepP
  cases i == 0 <;> cases lowB c <;> cases upB c <;> cases digB c <;> cases k != 0 <;> cases k == 2 <;> rfl

section
variable (s : ByteArray) (h : Heap)
theorem e0 : ev0 [0] R0 (S [(0, sv s)] h) = some ([(0, sv s)], h) := by kernel_rfl
theorem e1 : ev0 [0, 8] R1 (S [(0, sv s)] h) = some ([(0, sv s), (8, bv (decide ((s.size : Int) > 8)))], h) := by kernel_rfl
theorem e2 (st : Nat → Slot) : ev0 [2] R2 { s := st, h := h } = some ([(2, iv 0)], h) := by kernel_rfl
theorem e3 (b : Bool) : ev0 [0, 3] R3 (S [(0, sv s), (8, bv b)] h) = some ([(0, sv s), (3, iv 0)], h) := by kernel_rfl
theorem e40 : stepK E0 {} Tryz.f176.ntmps call0 (opsOf R4) 0 (o4 0) (S [(0, sv s), (3, iv 0)] h) (kLs [3, 9]) kN = some ([(3, iv 0), (9, sv s)], h) := by kernel_rfl
theorem e51 (k : Int) (q : Nat) (x y : AV) : stepK E0 {} Tryz.f176.ntmps call0 (opsOf R5) 1 (o5 1) { s := upd (lkS [(3, iv k), (10, pv q)]) 11 (.c (.v (.tup [.lit (.bool true), x, y]))), h := h } (kLs [3, 10, 11, 12]) kN = some ([(3, iv k), (10, pv q), (11, .c (.v (.tup [.lit (.bool true), x, y]))), (12, bv true)], h) := by kernel_rfl
theorem e51f (k : Int) (q : Nat) : stepK E0 {} Tryz.f176.ntmps call0 (opsOf R5) 1 (o5 1) { s := upd (lkS [(3, iv k), (10, pv q)]) 11 (.c (.v (.tup [.lit (.bool false)]))), h := h } (kLs [3, 12]) kN = some ([(3, iv k), (12, bv false)], h) := by kernel_rfl
theorem e14 (k : Int) : ev0 [2] R14 (S [(3, iv k)] h) = some ([(2, iv k)], h) := by kernel_rfl
theorem fin2 (k : Int) : finish E0 {} Tryz.f176 h (S [(2, iv k)] h) = some (.ret (.lit (.int .i64 k)), h) := by kernel_rfl
end

/-- From a place on. -/
def goP (s : ByteArray) : Nat → Nat → Int → Int
  | 0, _, _ => 0
  | m + 1, pos, k => if h : pos < s.size then (match stepP (pos == 0) k (Utf8.decode s pos).1 with
      | some k' => goP s m (pos + (Utf8.decode s pos).2) k'
      | none => 0) else k
theorem decode_pos (s : ByteArray) (pos : Nat) : 1 ≤ (Utf8.decode s pos).2 := by
  simp only [Utf8.decode]
  repeat' split
  all_goals first | exact Nat.le_refl 1 | exact (by decide : 1 ≤ 2) | exact (by decide : 1 ≤ 3) | exact (by decide : 1 ≤ 4)

theorem decode_le (s : ByteArray) (pos : Nat) (h : pos < s.size) : pos + (Utf8.decode s pos).2 ≤ s.size := by
  simp only [Utf8.decode]
  repeat' split
  all_goals rename_i hc
  all_goals simp only [Bool.and_eq_true, decide_eq_true_eq] at *
  all_goals first | (show pos + 1 ≤ s.size; omega) | (show pos + 2 ≤ s.size; omega) | (show pos + 3 ≤ s.size; omega) | (show pos + 4 ≤ s.size; omega)

theorem slotA {d : Nat} {G : Gh} {w : World} {st : St} {a : Act} (r : RepSt d G w st a.tmps) {i : Nat} {x : AV} (h : st.s i = .c (.v x)) : RepA G.S w G.μ x (a.tmps.getD i undef) := by
  have := r.slot i
  rw [h] at this; exact this

theorem done_ok {d : Nat} {G0 : Gh} {w0 : World} {h : Heap} {a : Act} {w : World} {k : Int} (hat : AtSt d Tryz.f176.ntmps G0 w0 (S [(2, iv k)] h) a w) (hd : a.defers = []) : bodyPost Tryz.prog Tryz.f176 (EndOk d G0 w0 (.ret (.lit (.int .i64 k))) h) .ret a w := by
  obtain ⟨G, r, hnt, hf⟩ := hat
  obtain ⟨v, k1, ⟨G', k2, k3, k4, k5⟩, _⟩ := finish_ok (G0 := G) (w0 := w) okE0 r.heap r (Fr.refl _ _ _) (fin2 h k)
  exact ⟨hd, v, k1, G', hf.trans k2, k3, k4, k5⟩
theorem of_avs {d : Nat} {G : Gh} {w : World} {st : St} {tmps : Array Value} (r : RepSt d G w st tmps) (l : List (Nat × AV)) (hl : ∀ p ∈ l, (st.s p.1).av = some p.2) : RepSt d G w (S (l.map fun p => (p.1, .c (.v p.2))) st.h) tmps := by
  refine ⟨fun i => ?_, fun u t off hu => ?_, r.heap, r.within⟩
  · show RepSlot G w d i (lkS _ i) _
    rcases lkS_spec (l.map fun p => (p.1, Slot.c (.v p.2))) i with e | e
    · rw [e]; trivial
    · obtain ⟨p, hp, e2⟩ := List.mem_map.1 e
      have e3 := (Prod.mk.inj e2).1; have e4 := (Prod.mk.inj e2).2
      subst e3; rw [← e4]; exact (r.slot p.1).av (hl p hp)
  · have hu : lkS (l.map fun p => (p.1, Slot.c (.v p.2))) u = .path t off := hu
    rcases lkS_spec (l.map fun p => (p.1, Slot.c (.v p.2))) u with e | e
    · rw [e] at hu; cases hu
    · obtain ⟨p, hp, e2⟩ := List.mem_map.1 e
      have e4 := (Prod.mk.inj e2).2
      rw [hu] at e4; cases e4

theorem loop_ok {d q : Nat} {G0 : Gh} {w0 : World} {h : Heap} {s : ByteArray} (hq : w0.heap.size ≤ q) {r : Int} {Q : Exit → Act → World → Prop}
    (hex : ∀ a w, AtSt d Tryz.f176.ntmps G0 w0 (S [(3, iv r)] h) a w → a.defers = [] → Q (.exit 0) a w)
    (hret : r = 0 → ∀ a w, AtSt d Tryz.f176.ntmps G0 w0 (S [(2, iv 0)] h) a w → a.defers = [] → Q .ret a w) :
    ∀ (m pos : Nat) (k : Int) (a : Act) (G : Gh) (w : World), s.size < m + pos → pos ≤ s.size → goP s m pos k = r → RepSt d G w (S [(3, iv k), (10, pv q)] h) a.tmps → a.tmps.size = Tryz.f176.ntmps → Fr d G0 w0 G w → G.O q = .none → w.heap[q]? = some (.stringIter s pos) → a.defers = [] →
      Code.roundsIn (FF none) 0 Tryz.prog lp Q m a w
  | 0, pos, k, a, G, w, h1, hle, hr, rs, hn, hf, ho, hi, hd => by omega
  | m + 1, pos, k, a, G, w, h1, hle, hr, rs, hn, hf, ho, hi, hd => by
    rw [roundsIn_succ]
    refine wpIn_seq (wpIn_region ?_)
    change wpOpsIn _ _ _ (opsOf R5) _ [0, 1] _ _
    rw [wpOpsIn_cons]
    have v10 : a.tmps.getD 10 undef = .pointer (some ⟨q, 0, none⟩) := (slotA rs (i := 10) rfl).litE
    have hev : a.eval (.tmp 10) = .pointer (some ⟨q, 0, none⟩) := v10
    have hx : ∀ arr T fz, Obj.stringIter s pos ≠ .cells arr T fz := fun _ _ _ e => by cases e
    unfold goP at hr
    by_cases hp : pos < s.size
    · rw [dif_pos hp] at hr
      have hy : ∀ arr T fz, Obj.stringIter s (pos + (Utf8.decode s pos).2) ≠ .cells arr T fz := fun _ _ _ e => by cases e
      have rs1 := st_putN (y := .stringIter s (pos + (Utf8.decode s pos).2)) hi hx hy ho rs
      have f1 : Fr d G0 w0 G (w.putObj q (.stringIter s (pos + (Utf8.decode s pos).2))) := hf.putN hq hi hx hy
      refine step_value (o := o5 0) (nt := Tryz.f176.ntmps) (st := S _ h) (x := .tup [.lit (.bool true), .lit (.int .i64 (pos : Int)), .lit (.int .i32 ((Utf8.decode s pos).1 : Int))]) (v := .tuple #[.bool true, .int .i64 pos, .int .i32 (Utf8.decode s pos).1]) (w' := w.putObj q (.stringIter s (pos + (Utf8.decode s pos).2))) (G' := G) rfl rfl rfl (fun c hc => by cases hc) (by decide) rfl hn ?_ rs1 (.tup (.cons (.lit rfl) (.cons (.lit rfl) (.cons (.lit rfl) .nil)))) fun a1 r1 n1 d1 => ?_
      · have hnx := Lib.run_next_any_at (P := Tryz.prog) w q s pos (o5 0).type hi hp
        unfold execOp
        show Sem.run Tryz.prog (Instr.next (a.eval (.tmp 10)) true _ >>= _) w = _
        rw [hev, Sem.run_bind, hnx]
        rfl
      · rw [wpOpsIn_cons]
        refine step_keep okE0 call0_ok (H := {}) (G0 := G) (w0 := w.putObj q (.stringIter s (pos + (Utf8.decode s pos).2))) rfl [3, 10, 11, 12] (e51 h k q _ _) ⟨G, r1, n1, Fr.refl _ _ _⟩ (d1.trans hd) fun a2 w2 hat2 hd2 => ?_
        obtain ⟨G2, r2, n2, f2⟩ := hat2
        refine wpIn_seq (wpIn_cond_true (slotA r2 (i := 12) rfl).litE (wpIn_skip ?_))
        have rk := r2.keep (some [3, 10, 11])
        refine Code.wpIn_mono (fun e a3 w3 hq3 => ?_) (evC_ok (ro := none) (nn := 0) (D := []) (G0 := G2) (w0 := w2) okE0 call0_ok b1 0 _ kS a2 w2 (body_ok h k (Utf8.decode s pos).1 pos q true) ⟨G2, rk, n2, Fr.refl _ _ _⟩ hd2)
        obtain ⟨hd3, hq3⟩ := hq3
        have hq0 : q < (w.putObj q (.stringIter s (pos + (Utf8.decode s pos).2))).heap.size := by simpa using lt_of_heap hi
        have s2 := f2.same q hq0 (by rw [ho]; rfl)
        have hi2 : w2.heap[q]? = some (.stringIter s (pos + (Utf8.decode s pos).2)) := s2.1.trans (put_same (lt_of_heap hi))
        cases e with
        | normal =>
          obtain ⟨st', G3, k1, k2, k3, k4⟩ := hq3
          unfold kS at k1
          simp only at k1
          rw [Option.bind_eq_some_iff] at k1; obtain ⟨x3, hx3, k1⟩ := k1
          rw [Option.bind_eq_some_iff] at k1; obtain ⟨x10, hx10, k1⟩ := k1
          have k1 := Option.some.inj k1
          cases hs : stepP (pos == 0) k ((Utf8.decode s pos).1 : Int) with
          | none => rw [hs] at k1; cases k1
          | some k' =>
            rw [hs] at k1 hr
            simp only [outP, Sum.inl.injEq, Prod.mk.injEq] at k1
            obtain ⟨rfl, rfl, hh⟩ := k1
            have rk3 := of_avs k2 [(3, .lit (.int .i64 k')), (10, .lit (.pointer (some ⟨q, 0, none⟩)))] (fun p hp => by
              simp only [List.mem_cons, List.not_mem_nil, or_false] at hp
              rcases hp with e | e
              · rw [e]; exact hx3
              · rw [e]; exact hx10)
            rw [hh] at rk3
            have s3 := k4.same q (lt_of_heap hi2) (by rw [s2.2.2, ho]; rfl)
            have hw := decode_pos s pos
            exact loop_ok hq hex hret m _ k' a3 G3 w3 (by omega) (decode_le s pos hp) hr rk3 k3 ((f1.trans f2).trans k4) (s3.2.2.trans (s2.2.2.trans ho)) (s3.1.trans hi2) hd3
        | ret =>
          obtain ⟨st', G3, k1, k2, k3, k4⟩ := hq3
          unfold kS at k1
          simp only at k1
          rw [Option.bind_eq_some_iff] at k1; obtain ⟨x2, hx2, k1⟩ := k1
          have k1 := Option.some.inj k1
          cases hs : stepP (pos == 0) k ((Utf8.decode s pos).1 : Int) with
          | some k' => rw [hs] at k1; cases k1
          | none =>
            rw [hs] at k1 hr
            simp only [outP, Sum.inr.injEq, Prod.mk.injEq] at k1
            obtain ⟨rfl, hh⟩ := k1
            have rk3 := of_avs k2 [(2, .lit (.int .i64 0))] (fun p hp => by
              simp only [List.mem_cons, List.not_mem_nil, or_false] at hp
              rw [hp]; exact hx2)
            rw [hh] at rk3
            exact hret hr.symm a3 w3 ⟨G3, rk3, k3, (f1.trans f2).trans k4⟩ hd3
        | exit i => obtain ⟨st', G3, k1, _⟩ := hq3; cases k1
        | panic ch => obtain ⟨x, v, G3, h', _, k1, _⟩ := hq3; cases k1
        | goto l => exact hq3.elim
        | outgrown => exact hq3.elim
    · rw [dif_neg hp] at hr
      subst hr
      refine step_value (o := o5 0) (nt := Tryz.f176.ntmps) (st := S _ h) (x := .tup [.lit (.bool false)]) (v := .tuple #[.bool false]) (w' := w) (G' := G) rfl rfl rfl (fun c hc => by cases hc) (by decide) rfl hn ?_ rs (.tup (.cons (.lit rfl) .nil)) fun a1 r1 n1 d1 => ?_
      · have hnx := Lib.run_next_end_at (P := Tryz.prog) w q s pos (o5 0).type hi hp
        unfold execOp
        show Sem.run Tryz.prog (Instr.next (a.eval (.tmp 10)) true _ >>= _) w = _
        rw [hev, Sem.run_bind, hnx]
        rfl
      · rw [wpOpsIn_cons]
        refine step_keep okE0 call0_ok (H := {}) (G0 := G0) (w0 := w0) rfl [3, 12] (e51f h k q) ⟨G, r1, n1, hf⟩ (d1.trans hd) fun a2 w2 hat2 hd2 => ?_
        obtain ⟨G2, r2, n2, f2⟩ := hat2
        refine wpIn_seq (wpIn_cond_false (slotA r2 (i := 12) rfl).litE (wpIn_exit ?_))
        exact hex a2 w2 ⟨G2, r2.keep (some [3]), n2, f2⟩ hd2

/-- What a text is by its letters alone. -/
def shapeP (s : ByteArray) : Int := bif decide ((s.size : Int) > 8) then 0 else goP s 10 0 0

theorem shape_ends (s : ByteArray) (h : Heap) : Ends Tryz.prog 176 [.lit (.string s)] h (.ret (.lit (.int .i64 (shapeP s)))) h := by
  refine ⟨⟨Tryz.f176, Tryz.func176, by kernel_rfl, rfl⟩, fun d G w argv hr hh hw => ?_⟩
  refine calls_of_wp Tryz.func176 rfl ?_
  refine (wpIn_wide (n := 0)).1 ?_
  have hal : argv.size = 1 := by simpa using hr.length.symm
  have hat : AtSt d Tryz.f176.ntmps G w (S [(0, sv s)] h) { tmps := argv ++ Array.replicate (Tryz.f176.ntmps - argv.size) undef, defers := [] } w := by
    refine ⟨G, ⟨fun i => ?_, fun u t off hu => ?_, hh, hw⟩, by rw [Array.size_append, Array.size_replicate, hal]; rfl, Fr.refl d G w⟩
    · rcases lkS_spec [(0, sv s)] i with e | e
      · show RepSlot _ _ _ _ (lkS _ _) _
        rw [e]; trivial
      · refine argSlots_spec [.lit (.string s)] 0 argv.toList hr (fun j x hj => ?_) _ e
        have hj' : j < argv.size := by simpa using (List.getElem?_eq_some_iff.1 hj).1
        rw [Nat.zero_add, Array.getD_eq_getD_getElem?, Array.getElem?_append_left hj', ← Array.getElem?_toList, hj]; rfl
    · exfalso
      have hu : lkS [(0, sv s)] u = .path t off := hu
      rcases lkS_spec [(0, sv s)] u with e | e
      · rw [e] at hu; cases hu
      · rw [hu] at e; simp at e
  refine wpIn_seq (seg_keep okE0 call0_ok (H := {}) (n := 0) (bi := 0) [0] (e0 s h) hat rfl fun a1 w1 hat1 hd1 => ?_)
  refine wpIn_seq (wpIn_seq (seg_keep okE0 call0_ok (H := {}) (n := 0) (bi := 0) [0, 8] (e1 s h) hat1 hd1 fun a2 w2 hat2 hd2 => ?_))
  obtain ⟨G2, r2, n2, f2⟩ := hat2
  have hb := (slotA r2 (i := 8) rfl).litE
  unfold shapeP
  cases hd8 : decide ((s.size : Int) > 8) with
  | true =>
    rw [hd8] at hb
    refine wpIn_cond_true hb (wpIn_seq (seg_keep okE0 call0_ok (H := {}) (n := 0) (bi := 0) [2] (e2 h _) ⟨G2, r2, n2, f2⟩ hd2 fun a3 w3 hat3 hd3 => ?_))
    exact wpIn_ret (done_ok hat3 hd3)
  | false =>
    rw [hd8] at hb
    have h9 : ¬ ((s.size : Int) > 8) := of_decide_eq_false hd8
    have h8 : s.size ≤ 8 := by omega
    refine wpIn_cond_false hb (wpIn_skip ?_)
    refine wpIn_seq (seg_keep okE0 call0_ok (H := {}) (n := 0) (bi := 0) [0, 3] (e3 s h _) ⟨G2, r2, n2, f2⟩ hd2 fun a3 w3 hat3 hd3 => ?_)
    refine wpIn_seq (wpIn_seq (wpIn_region ?_))
    change wpOpsIn _ _ _ (opsOf R4) _ [0, 1] _ _
    rw [wpOpsIn_cons]
    refine step_keep okE0 call0_ok (H := {}) rfl [3, 9] (e40 s h) hat3 hd3 fun a4 w4 hat4 hd4 => ?_
    rw [wpOpsIn_cons]
    obtain ⟨G4, r4, n4, f4⟩ := hat4
    have v9 : a4.eval (.tmp 9) = .string s := (slotA r4 (i := 9) rfl).litE
    obtain ⟨ra, fa⟩ := st_alloc (.stringIter s 0) r4
    refine step_value (o := o4 1) (nt := Tryz.f176.ntmps) (st := S _ h) (x := .lit (.pointer (some ⟨w4.heap.size, 0, none⟩))) (v := .pointer (some ⟨w4.heap.size, 0, none⟩)) (w' := w4.alloc (.stringIter s 0)) (G' := setO G4 w4.heap.size .none) rfl rfl rfl (fun c hc => by cases hc) (by decide) rfl n4 ?_ ra (.lit rfl) fun a5 r5 n5 d5 => ?_
    · have hnx := run_range_string (P := Tryz.prog) w4 9 s Tryz.underlying9
      unfold execOp
      show Sem.run Tryz.prog (Instr.range 9 (a4.eval (.tmp 9)) >>= _) w4 = _
      rw [v9, Sem.run_bind, hnx]
      rfl
    · refine wpIn_block (wpIn_loop_rounds 10 ?_)
      have r6 := r5.keep (some [3, 10])
      refine loop_ok (r := goP s 10 0 0) (h := h) (s := s) (G0 := G) (w0 := w) (q := w4.heap.size) f4.size ?_ ?_ 10 0 0 a5 (setO G4 w4.heap.size .none) (w4.alloc (.stringIter s 0)) (by omega) (Nat.zero_le _) rfl r6 n5 (f4.trans fa) setO_self (heap_alloc_new _ _) (d5.trans hd4)
      · intro a6 w6 hat6 hd6
        show Code.wpIn (FF none) 0 Tryz.prog (pR t4) (bodyPost Tryz.prog Tryz.f176 (EndOk d G w (.ret (.lit (.int .i64 (goP s 10 0 0)))) h)) a6 w6
        refine wpIn_seq (seg_keep okE0 call0_ok (H := {}) (n := 0) (bi := 0) [2] (e14 h _) hat6 hd6 fun a7 w7 hat7 hd7 => ?_)
        exact wpIn_ret (done_ok hat7 hd7)
      · intro hr0 a6 w6 hat6 hd6
        rw [show cond false 0 (goP s 10 0 0) = goP s 10 0 0 from rfl, hr0]
        exact done_ok hat6 hd6
end P176

def p176 : (Nat → List AV → Heap → R) → List AV → Heap → R := fun _ args h => match args with
  | [.lit (.string s)] => some (.ret (.lit (.int .i64 (P176.shapeP s))), h)
  | _ => none
theorem p176_ok (call : Nat → List AV → Heap → R) (args : List AV) (h : Heap) (out : Out) (h' : Heap) (e : p176 call args h = some (out, h')) : Ends Tryz.prog 176 args h out h' := by
  unfold p176 at e
  split at e
  · have e := Option.some.inj e; cases e
    exact P176.shape_ends _ _
  · cases e
end Go.Sh.T

/- ty.Has: a range over a function, by its shadow. -/
namespace Go.Sh.T
open Go Go.Sh Go.Proofs
set_option maxRecDepth 100000
set_option linter.unusedVariables false
set_option linter.unusedSimpArgs false

namespace H34
open W34 (Tr TrL pL pR)
theorem noPrims0 : PrimsOk E0 := fun f p h => by cases h
noncomputable def call0 : Nat → List AV → Heap → R := ev E0 1
theorem call0_ok : SoundC Tryz.prog call0 := ev_ok okE0 noPrims0 1

mutual
theorem tr : ∀ t : Ty, t.small = true → Tr t.cells (t.pre.map fun x => .agg x.cells)
  | ⟨k, n, s, ls, xs⟩, h => by
    rw [Ty.small, Bool.and_eq_true] at h
    rw [Ty.pre_eq, List.map_cons, Ty.cells_eq]
    exact .mk (by rw [← Ty.cellsL_map]; exact trL xs h.2) (by rw [List.length_map]; exact bleE h.1)
theorem trL : ∀ l : List Ty, Ty.smallL l = true → TrL (Ty.cellsL l) ((Ty.preL l).map fun x => .agg x.cells)
  | [], _ => by rw [Ty.preL, Ty.cellsL]; exact .nil
  | t :: r, h => by
    rw [Ty.smallL, Bool.and_eq_true] at h
    rw [Ty.preL_cons, Ty.cellsL, List.map_append]
    exact .cons (tr t h.1) (trL r h.2)
end

noncomputable def body : Code := Tryz.f92.body.getD .skip
noncomputable def A := pL body
noncomputable def B := pL (pL (pR body))
noncomputable def rng := pL (pR (pL (pR body)))
noncomputable def rest := pR (pR body)
def asg : Code → Code
  | .rangeFunc _ _ a _ => a
  | c => c
def bod : Code → Code
  | .rangeFunc _ _ _ b => b
  | c => c
abbrev HH : FHint := { hb := [3, 4], hp := [3, 4], base := [(9, 5)] }
abbrev fnC (i : Nat) : Slot := .c (.v (.fn 185 [] [.hp i 0]))
abbrev hpS (i : Nat) : Slot := .c (.v (.hp i 0))

section
variable (t : Ty) (k : Int) (h : Heap)
theorem kA (q0 q1 q2 q3 q4 : AV) : evC E0 HH Tryz.f92.ntmps call0 0 A 0 { s := lkS (argSlots 0 [.agg [q0, q1, q2, q3, q4], .lit (.int .i64 k)]), h := h } (kL [2, 3, 4]) kN = some ([(2, .loc [.v q0, .v q1, .v q2, .v q3, .v q4]), (3, hpS h.length), (4, hpS (h ++ ([[.v (.lit (.int .i64 k))]] : Heap)).length)], (h ++ ([[.v (.lit (.int .i64 k))]] : Heap)) ++ ([[.v (.lit (.bool false))]] : Heap)) := by kernel_rfl
theorem kB (q0 q1 q2 q3 q4 : AV) (i j : Nat) : evC E0 HH Tryz.f92.ntmps call0 0 B 0 { s := lkS [(2, .loc [.v q0, .v q1, .v q2, .v q3, .v q4]), (3, hpS i), (4, hpS j)], h := h } (kL [3, 4, 7]) kN = some ([(3, hpS i), (4, hpS j), (7, fnC h.length)], h ++ [[.v q0, .v q1, .v q2, .v q3, .v q4]]) := by kernel_rfl
theorem kR (q0 q1 q2 q3 q4 : AV) (i j : Nat) : roundE E0 HH Tryz.f92.ntmps call0 0 (lkS [(3, hpS i), (4, hpS j)]) 8 (asg rng) (bod rng) (.agg [q0, q1, q2, q3, q4]) h =
    (hpart false 1 0 i h).bind fun v => (binAV E0 .eql 3 q0 v).bind fun r => (boolOf r).bind fun b => cond b ((hstore h j 0 [.v (.lit (.bool true))]).bind fun h2 => some (some .ret, h2)) (some (none, h)) := by kernel_rfl
theorem kF (h0 : Heap) (i j : Nat) (f : Slot) : finish E0 HH Tryz.f92 h0 { s := lkS [(3, hpS i), (4, hpS j), (7, f)], h := h } = (hpart false 1 0 j h).bind fun a => trunc HH h0 (.ret a) h := by kernel_rfl
theorem kC (h0 : Heap) (i j : Nat) (f : Slot) : evC E0 HH Tryz.f92.ntmps call0 0 rest 0 { s := lkS [(3, hpS i), (4, hpS j), (7, f)], h := h } (fun e st' => match e with | .exit _ => none | _ => finish E0 HH Tryz.f92 h0 st') (fun _ _ => none) =
    (hstore h j 0 [.v (.lit (.bool false))]).bind fun h2 => (hpart false 1 0 j h2).bind fun a => trunc HH h0 (.ret a) h2 := by kernel_rfl
end

theorem fold (k : Int) (h : Heap) (z : List (List Cell)) : ∀ l : List Ty, foldR (roundE E0 HH Tryz.f92.ntmps call0 0 (lkS [(3, hpS h.length), (4, hpS (h.length + 1))]) 8 (asg rng) (bod rng)) (l.map fun x => .agg x.cells) (h ++ ([.v (.lit (.int .i64 k))] :: [.v (.lit (.bool false))] :: z)) =
    some (if l.any (fun x => x.k == k) then (some .ret, h ++ ([.v (.lit (.int .i64 k))] :: [.v (.lit (.bool true))] :: z)) else (none, h ++ ([.v (.lit (.int .i64 k))] :: [.v (.lit (.bool false))] :: z)))
  | [] => rfl
  | t :: l => by
    rw [List.map_cons, foldR, List.any_cons, Ty.cells_eq, kR, hpart_app0]
    have e1 : hpart false 1 0 0 ([.v (.lit (.int .i64 k))] :: [.v (.lit (.bool false))] :: z) = some (.lit (.int .i64 k)) := rfl
    have e2 : hstore ([.v (.lit (.int .i64 k))] :: [.v (.lit (.bool false))] :: z) 1 0 [.v (.lit (.bool true))] = some ([.v (.lit (.int .i64 k))] :: [.v (.lit (.bool true))] :: z) := rfl
    rw [e1, Option.bind_some, bin_int]
    simp only [intBin, Option.bind_some, boolOf]
    cases e : t.k == k with
    | true => rw [cond_true, hstore_app, e2]; rfl
    | false => simp only [cond_false, Option.bind_some, Bool.false_or]; exact fold k h z l

theorem has_ends (t : Ty) (ok : t.small = true) (k : Int) (h : Heap) : Ends Tryz.prog 92 [.agg t.cells, .lit (.int .i64 k)] h (.ret (.lit (.bool (t.has k)))) h := by
  have hlen : (h ++ [[Cell.v (.lit (.int .i64 k))]]).length = h.length + 1 := by simp
  have hA := kA k h (.lit (.int .i64 t.k)) (.lit (.int .i64 t.n)) (.lit (.string t.name)) (.sl 1 (t.labels.map strC)) (.sl 5 (t.args.map Ty.cells))
  rw [← Ty.cells_eq, hlen] at hA
  have hB := kB ((h ++ [[Cell.v (.lit (.int .i64 k))]]) ++ [[.v (.lit (.bool false))]]) (.lit (.int .i64 t.k)) (.lit (.int .i64 t.n)) (.lit (.string t.name)) (.sl 1 (t.labels.map strC)) (.sl 5 (t.args.map Ty.cells)) h.length (h.length + 1)
  obtain ⟨z, hz⟩ : ∃ z : List Cell, z = [.v (.lit (.int .i64 t.k)), .v (.lit (.int .i64 t.n)), .v (.lit (.string t.name)), .v (.sl 1 (t.labels.map strC)), .v (.sl 5 (t.args.map Ty.cells))] := ⟨_, rfl⟩
  have hzc : z.map Cell.get = t.cells := by rw [hz, Ty.cells_eq]; rfl
  rw [← hz] at hA hB
  have e1 : ((h ++ [[Cell.v (.lit (.int .i64 k))]]) ++ [[.v (.lit (.bool false))]]) ++ [z] = h ++ ([.v (.lit (.int .i64 k))] :: [.v (.lit (.bool false))] :: [z]) := by simp
  have hf := fold k h [z] t.pre
  refine range_fn (E := E0) (call := call0) okE0 call0_ok (fn := Tryz.f92) Tryz.func92 (by kernel_rfl) (by rfl : Tryz.f92.body = some (.seq A (.seq (.seq B (.block 0 (.rangeFunc (.tmp 7) #[8] (asg rng) (bod rng)))) rest))) (H := HH) (n := 0) (Nat.le_of_ble_eq_true rfl) [2, 3, 4] hA [3, 4, 7] hB (L := [(3, hpS h.length), (4, hpS (h.length + 1))]) rfl (by decide) (by rfl) (fun i => ?_) rfl
    (W34.iter_ok (tr t ok) ?_) (by rw [e1]; exact hf) ?_
  · rcases i with _ | _ | _ | _ | _ | i <;> first | exact .inr rfl | exact .inl rfl
  · rw [List.getElem?_append_right (Nat.le_refl _), Nat.sub_self]
    show some (z.map Cell.get) = _
    rw [hzc]
  · have p1 : hpart false 1 0 1 ([.v (.lit (.int .i64 k))] :: [.v (.lit (.bool true))] :: [z]) = some (.lit (.bool true)) := rfl
    have p2 : hpart false 1 0 1 ([.v (.lit (.int .i64 k))] :: [.v (.lit (.bool false))] :: [z]) = some (.lit (.bool false)) := rfl
    have p3 : hstore ([.v (.lit (.int .i64 k))] :: [.v (.lit (.bool false))] :: [z]) 1 0 [.v (.lit (.bool false))] = some ([.v (.lit (.int .i64 k))] :: [.v (.lit (.bool false))] :: [z]) := rfl
    rw [Ty.has_pre]
    cases e : t.pre.any (fun x => x.k == k) with
    | true =>
      rw [if_pos rfl]
      refine (kF _ h h.length (h.length + 1) _).trans ?_
      rw [hpart_app, p1, Option.bind_some, trunc_app (H := HH) rfl (show Out.lt _ (.ret (.lit _)) from AV.lt.lit _)]
    | false =>
      rw [if_neg (by simp)]
      refine (kC _ h h.length (h.length + 1) _).trans ?_
      rw [hstore_app, p3, Option.map_some, Option.bind_some, hpart_app, p2, Option.bind_some, trunc_app (H := HH) rfl (show Out.lt _ (.ret (.lit _)) from AV.lt.lit _)]
end H34

def p92 : (Nat → List AV → Heap → R) → List AV → Heap → R := fun _ args h => match args with
  | [.agg cs, .lit (.int .i64 k)] => (decC cs).bind fun t => bif t.small then some (.ret (.lit (.bool (t.has k))), h) else none
  | _ => none
theorem p92_ok (call : Nat → List AV → Heap → R) (args : List AV) (h : Heap) (out : Out) (h' : Heap) (e : p92 call args h = some (out, h')) : Ends Tryz.prog 92 args h out h' := by
  unfold p92 at e
  split at e
  · rw [Option.bind_eq_some_iff] at e; obtain ⟨t, ht, e⟩ := e
    obtain ⟨hs, e⟩ := condE e
    have e := Option.some.inj e; cases e
    rw [decC_ok ht]
    exact H34.has_ends t hs _ _
  · cases e
end Go.Sh.T

/- ty.Nodes: a range over a function that counts, by its shadow. -/
namespace Go.Sh.T
set_option maxRecDepth 100000
set_option linter.unusedVariables false
set_option linter.unusedSimpArgs false
open Go Go.Sh Go.Proofs

namespace H34
namespace N
open W34 (Tr TrL pL pR)
noncomputable def body : Code := Tryz.f238.body.getD .skip
noncomputable def A := pL body
noncomputable def A2 := pL (pR body)
noncomputable def B := pL (pL (pR (pR body)))
noncomputable def rng := pL (pR (pL (pR (pR body))))
noncomputable def rest := pR (pR (pR body))
abbrev HH : FHint := { hb := [3], hp := [3] }
abbrev iv (n : Int) : Slot := .c (.v (.lit (.int .i64 n)))
section
variable (q0 q1 q2 q3 q4 : AV) (h : Heap)
theorem kA : evC E0 HH Tryz.f238.ntmps call0 0 A 0 { s := lkS (argSlots 0 [.agg [q0, q1, q2, q3, q4]]), h := h } (kL [1, 2]) kN = some ([(1, .loc ([q0, q1, q2, q3, q4].map .v)), (2, iv 0)], h) := by kernel_rfl
theorem kA2 (x : Slot) : evC E0 HH Tryz.f238.ntmps call0 0 A2 0 { s := lkS [(1, .loc ([q0, q1, q2, q3, q4].map .v)), (2, x)], h := h } (kL [1, 3]) kN = (hstore (h ++ ([[.v (.lit (.int .i64 0))]] : Heap)) h.length 0 [.v (.lit (.int .i64 0))]).bind fun h2 => some ([(1, .loc ([q0, q1, q2, q3, q4].map .v)), (3, hpS h.length)], h2) := by kernel_rfl
theorem kB (i : Nat) : evC E0 HH Tryz.f238.ntmps call0 0 B 0 { s := lkS [(1, .loc ([q0, q1, q2, q3, q4].map .v)), (3, hpS i)], h := h } (kL [3, 5]) kN = some ([(3, hpS i), (5, fnC h.length)], h ++ [[q0, q1, q2, q3, q4].map .v]) := by kernel_rfl
theorem kR (i : Nat) (x : AV) : roundE E0 HH Tryz.f238.ntmps call0 0 (lkS [(3, hpS i)]) 6 (asg rng) (bod rng) x h =
    (hpart false 1 0 i h).bind fun v => (binAV E0 .add 3 v (.lit (.int .i64 1))).bind fun r => cond (AV.one r) ((hstore h i 0 [.v r]).bind fun h2 => some (none, h2)) none := by kernel_rfl
theorem kC (h0 : Heap) (i : Nat) (f : Slot) : evC E0 HH Tryz.f238.ntmps call0 0 rest 0 { s := lkS [(3, hpS i), (5, f)], h := h } (fun e st' => match e with | .exit _ => none | _ => finish E0 HH Tryz.f238 h0 st') (fun _ _ => none) =
    (hpart false 1 0 i h).bind fun a => trunc HH h0 (.ret a) h := by kernel_rfl
end
def cntW : List AV → Int → Int
  | [], n => n
  | _ :: r, n => cntW r (IntKind.i64.wrap (n + 1))
theorem fold (h : Heap) (z : List (List Cell)) : ∀ (l : List AV) (n : Int), foldR (roundE E0 HH Tryz.f238.ntmps call0 0 (lkS [(3, hpS h.length)]) 6 (asg rng) (bod rng)) l (h ++ ([.v (.lit (.int .i64 n))] :: z)) = some (none, h ++ ([.v (.lit (.int .i64 (cntW l n)))] :: z))
  | [], n => rfl
  | x :: l, n => by
    rw [foldR, kR, hpart_app0, show hpart false 1 0 0 ([.v (.lit (.int .i64 n))] :: z) = some (.lit (.int .i64 n)) from rfl, bind_some', bin_int, show intBin .add .i64 n 1 = some (.lit (.int .i64 (IntKind.i64.wrap (n + 1)))) from rfl, bind_some', show AV.one (.lit (.int .i64 (IntKind.i64.wrap (n + 1)))) = true from rfl, condT, hstore_app0, show hstore ([.v (.lit (.int .i64 n))] :: z) 0 0 [.v (.lit (.int .i64 (IntKind.i64.wrap (n + 1))))] = some ([.v (.lit (.int .i64 (IntKind.i64.wrap (n + 1))))] :: z) from rfl]
    exact fold h z l _
theorem ends (t : Ty) (ok : t.small = true) (h : Heap) : Ends Tryz.prog 238 [.agg t.cells] h (.ret (.lit (.int .i64 (cntW (t.pre.map fun x => .agg x.cells) 0)))) h := by
  have h1 := kA (.lit (.int .i64 t.k)) (.lit (.int .i64 t.n)) (.lit (.string t.name)) (.sl 1 (t.labels.map strC)) (.sl 5 (t.args.map Ty.cells)) h
  have h2 := kA2 (.lit (.int .i64 t.k)) (.lit (.int .i64 t.n)) (.lit (.string t.name)) (.sl 1 (t.labels.map strC)) (.sl 5 (t.args.map Ty.cells)) h (iv 0)
  rw [hstore_app0, show hstore ([[.v (.lit (.int .i64 0))]] : Heap) 0 0 [.v (.lit (.int .i64 0))] = some [[.v (.lit (.int .i64 0))]] from rfl] at h2
  have h3 := kB (.lit (.int .i64 t.k)) (.lit (.int .i64 t.n)) (.lit (.string t.name)) (.sl 1 (t.labels.map strC)) (.sl 5 (t.args.map Ty.cells)) (h ++ [[.v (.lit (.int .i64 0))]]) h.length
  rw [← Ty.cells_eq] at h1 h2 h3
  have hf := fold h [t.cells.map .v] (t.pre.map fun x => .agg x.cells) 0
  have e1 : (h ++ [[Cell.v (.lit (.int .i64 0))]]) ++ [t.cells.map Cell.v] = h ++ ([.v (.lit (.int .i64 0))] :: [t.cells.map Cell.v]) := by simp
  refine range_fn2 (E := E0) (call := call0) okE0 call0_ok (fn := Tryz.f238) Tryz.func238 (by kernel_rfl) (by rfl : Tryz.f238.body = some (.seq A (.seq A2 (.seq (.seq B (.block 0 (.rangeFunc (.tmp 5) #[6] (asg rng) (bod rng)))) rest)))) (H := HH) (n := 0) (Nat.le_of_ble_eq_true rfl) [1, 2] h1 [1, 3] h2 [3, 5] h3 (L := [(3, hpS h.length)]) rfl (by decide) (by rfl) (fun i => ?_) rfl
    (W34.iter_ok (tr t ok) ?_) (by rw [e1]; exact hf) ?_
  · rcases i with _ | _ | _ | _ | i <;> first | exact .inr rfl | exact .inl rfl
  · rw [List.getElem?_append_right (Nat.le_refl _), Nat.sub_self]
    show some ((t.cells.map Cell.v).map Cell.get) = _
    rw [List.map_map, show Cell.get ∘ Cell.v = id from rfl, List.map_id]
  · refine (kC _ h h.length _).trans ?_
    rw [hpart_app0, show ∀ z : List (List Cell), hpart false 1 0 0 ([.v (.lit (.int .i64 (cntW (t.pre.map fun x => .agg x.cells) 0)))] :: z) = some (.lit (.int .i64 (cntW (t.pre.map fun x => .agg x.cells) 0))) from fun z => rfl, bind_some']
    exact trunc_app (H := HH) rfl (show Out.lt _ (.ret (.lit _)) from AV.lt.lit _)
end N
end H34
def p238 : (Nat → List AV → Heap → R) → List AV → Heap → R := fun _ args h => match args with
  | [.agg cs] => (decC cs).bind fun t => bif t.small then some (.ret (.lit (.int .i64 (H34.N.cntW (t.pre.map fun x => .agg x.cells) 0))), h) else none
  | _ => none
theorem p238_ok (call : Nat → List AV → Heap → R) (args : List AV) (h : Heap) (out : Out) (h' : Heap) (e : p238 call args h = some (out, h')) : Ends Tryz.prog 238 args h out h' := by
  unfold p238 at e
  split at e
  · rw [Option.bind_eq_some_iff] at e; obtain ⟨t, ht, e⟩ := e
    obtain ⟨hs, e⟩ := condE e
    have e := Option.some.inj e; cases e
    rw [decC_ok ht]
    exact H34.N.ends t hs _
  · cases e
end Go.Sh.T

/- The walk over a tree's nodes: what the iterator promises. -/
namespace Go.Sh.T
open Go Go.Sh Go.Proofs
set_option maxRecDepth 100000
set_option linter.unusedVariables false
set_option linter.unusedSimpArgs false

namespace W26
def yl (l : Nat) : AV := .lit (.func (.yield l) #[] #[])

mutual
inductive Tr : List AV → List AV → Prop
  | mk {q0 q1 q2 q3 q4 q5 : AV} {kids : List (List AV)} {xs : List AV} (h : TrL kids xs) (hl : kids.length ≤ 9223372036854775807) : Tr [q0, q1, q2, q3, q4, q5, .sl 7 kids] (.agg [q0, q1, q2, q3, q4, q5, .sl 7 kids] :: xs)
inductive TrL : List (List AV) → List AV → Prop
  | nil : TrL [] []
  | cons {e : List AV} {r : List (List AV)} {xs ys : List AV} (h : Tr e xs) (t : TrL r ys) : TrL (e :: r) (xs ++ ys)
end

theorem Tr.len {e xs : List AV} (h : Tr e xs) : e.length = 7 := by cases h; rfl

noncomputable def body : Code := Tryz.f287.body.getD .skip
def pL : Code → Code
  | .seq a _ => a
  | .block _ c => c
  | .loop c => c
  | .cond _ a _ => a
  | c => c
def pR : Code → Code
  | .seq _ b => b
  | .cond _ _ b => b
  | c => c
def opsOf : Code → Array Oper
  | .region _ ops _ => ops
  | _ => #[]
noncomputable def R0 := pL body
noncomputable def R1 := pL (pL (pR body))
noncomputable def R2 := pL (pL (pR (pL (pR body))))
noncomputable def tl := pR (pR body)
noncomputable def R3 := pL (pL tl)
noncomputable def lp := pL (pL (pR (pL tl)))
noncomputable def R4 := pL lp
noncomputable def b1 := pL (pL (pR (pR lp)))
noncomputable def R5 := pL b1
noncomputable def R6 := pL (pR b1)
noncomputable def R7 := pL (pL (pR (pR b1)))
noncomputable def R8 := pR (pR (pR lp))
noncomputable def R9 := pL (pR tl)
noncomputable def o1 (i : Nat) : Oper := (opsOf R1).getD i default
noncomputable def o6 (i : Nat) : Oper := (opsOf R6).getD i default

abbrev S (l : List (Nat × Slot)) (h : Heap) : St := { s := lkS l, h := h }
abbrev HB : FHint := { base := [(11, 2)] }
noncomputable abbrev ev0 (L : List Nat) (c : Code) (st : St) : Option (List (Nat × Slot) × Heap) := evC E0 HB Tryz.f287.ntmps noCall 0 c 0 st (kL L) kN
abbrev lc (l : List AV) : Slot := .loc (l.map .v)
abbrev iv (i : Int) : Slot := .c (.v (.lit (.int .i64 i)))
abbrev bv (b : Bool) : Slot := .c (.v (.lit (.bool b)))

section
variable (l : Nat) (q0 q1 q2 q3 q4 q5 : AV) (kids : List (List AV)) (h : Heap)
theorem e0 : ev0 [1, 2] R0 (S [(0, .c (.v (.agg [q0, q1, q2, q3, q4, q5, .sl 7 kids]))), (1, .c (.v (yl l)))] h) = some ([(1, .c (.v (yl l))), (2, lc [q0, q1, q2, q3, q4, q5, .sl 7 kids])], h) := by kernel_rfl
theorem e10 : stepK E0 {} Tryz.f287.ntmps noCall (opsOf R1) 0 (o1 0) (S [(1, .c (.v (yl l))), (2, lc [q0, q1, q2, q3, q4, q5, .sl 7 kids])] h) (kLs [1, 2, 7]) kN = some ([(1, .c (.v (yl l))), (2, lc [q0, q1, q2, q3, q4, q5, .sl 7 kids]), (7, .c (.v (yl l)))], h) := by kernel_rfl
theorem e11 : stepK E0 {} Tryz.f287.ntmps noCall (opsOf R1) 1 (o1 1) (S [(1, .c (.v (yl l))), (2, lc [q0, q1, q2, q3, q4, q5, .sl 7 kids]), (7, .c (.v (yl l)))] h) (kLs [1, 2, 7, 8]) kN = some ([(1, .c (.v (yl l))), (2, lc [q0, q1, q2, q3, q4, q5, .sl 7 kids]), (7, .c (.v (yl l))), (8, .c (.v (.agg [q0, q1, q2, q3, q4, q5, .sl 7 kids])))], h) := by kernel_rfl
theorem e13 (t : Bool) : stepK E0 {} Tryz.f287.ntmps noCall (opsOf R1) 3 (o1 3) { s := upd (lkS [(1, .c (.v (yl l))), (2, lc [q0, q1, q2, q3, q4, q5, .sl 7 kids]), (7, .c (.v (yl l))), (8, .c (.v (.agg [q0, q1, q2, q3, q4, q5, .sl 7 kids])))]) 9 (bv t), h := h } (kLs [1, 2, 10]) kN = some ([(1, .c (.v (yl l))), (2, lc [q0, q1, q2, q3, q4, q5, .sl 7 kids]), (10, bv (!t))], h) := by cases t <;> kernel_rfl
theorem e2 (st : Nat → Slot) : ev0 [4] R2 { s := st, h := h } = some ([(4, bv false)], h) := by kernel_rfl
theorem e3 (t : Bool) : ev0 [1, 12, 13, 14] R3 (S [(1, .c (.v (yl l))), (2, lc [q0, q1, q2, q3, q4, q5, .sl 7 kids]), (10, bv t)] h) = some ([(1, .c (.v (yl l))), (12, .c (.v (.sl 7 kids))), (13, iv kids.length), (14, iv 0)], h) := by kernel_rfl
theorem e4 (n i : Int) : ev0 [1, 12, 13, 14, 15] R4 (S [(1, .c (.v (yl l))), (12, .c (.v (.sl 7 kids))), (13, iv n), (14, iv i)] h) = some ([(1, .c (.v (yl l))), (12, .c (.v (.sl 7 kids))), (13, iv n), (14, iv i), (15, bv (decide (i < n)))], h) := by kernel_rfl
theorem e5 (n i : Int) (t : Bool) : ev0 [1, 12, 13, 14, 6] R5 (S [(1, .c (.v (yl l))), (12, .c (.v (.sl 7 kids))), (13, iv n), (14, iv i), (15, bv t)] h) = (indexA 7 (.sl 7 kids) (.lit (.int .i64 i))).bind fun e => (partA true 7 0 e).bind fun v => explodeK ti61 v fun cs => some ([(1, .c (.v (yl l))), (12, .c (.v (.sl 7 kids))), (13, iv n), (14, iv i), (6, .loc cs)], h) := by kernel_rfl
theorem e60 (n i : Int) (zs : List (List AV)) : stepK E0 {} Tryz.f287.ntmps noCall (opsOf R6) 0 (o6 0) (S [(1, .c (.v (yl l))), (12, .c (.v (.sl 7 zs))), (13, iv n), (14, iv i), (6, lc [q0, q1, q2, q3, q4, q5, .sl 7 kids])] h) (kLs [1, 12, 13, 14, 18]) kN = some ([(1, .c (.v (yl l))), (12, .c (.v (.sl 7 zs))), (13, iv n), (14, iv i), (18, .c (.v (.agg [q0, q1, q2, q3, q4, q5, .sl 7 kids])))], h) := by kernel_rfl
theorem e61 (n i : Int) (x : AV) : stepK E0 {} Tryz.f287.ntmps noCall (opsOf R6) 1 (o6 1) (S [(1, .c (.v (yl l))), (12, .c (.v (.sl 7 kids))), (13, iv n), (14, iv i), (18, .c (.v x))] h) (kLs [1, 12, 13, 14, 18, 19]) kN = some ([(1, .c (.v (yl l))), (12, .c (.v (.sl 7 kids))), (13, iv n), (14, iv i), (18, .c (.v x)), (19, .c (.v (yl l)))], h) := by kernel_rfl
theorem e63 (n i : Int) (x : AV) (t : Bool) : stepK E0 {} Tryz.f287.ntmps noCall (opsOf R6) 3 (o6 3) { s := upd (lkS [(1, .c (.v (yl l))), (12, .c (.v (.sl 7 kids))), (13, iv n), (14, iv i), (18, .c (.v x)), (19, .c (.v (yl l)))]) 20 (bv t), h := h } (kLs [1, 12, 13, 14, 21]) kN = some ([(1, .c (.v (yl l))), (12, .c (.v (.sl 7 kids))), (13, iv n), (14, iv i), (21, bv (!t))], h) := by cases t <;> kernel_rfl
theorem e7 (st : Nat → Slot) : ev0 [4] R7 { s := st, h := h } = some ([(4, bv false)], h) := by kernel_rfl
theorem e8 (n i : Int) (t : Bool) : ev0 [1, 12, 13, 14] R8 (S [(1, .c (.v (yl l))), (12, .c (.v (.sl 7 kids))), (13, iv n), (14, iv i), (21, bv t)] h) = some ([(1, .c (.v (yl l))), (12, .c (.v (.sl 7 kids))), (13, iv n), (14, iv (IntKind.i64.wrap (i + 1)))], h) := by kernel_rfl
theorem e9 (st : Nat → Slot) : ev0 [4] R9 { s := st, h := h } = some ([(4, bv true)], h) := by kernel_rfl
theorem fin4 (t : Bool) : finish E0 {} Tryz.f287 h (S [(4, bv t)] h) = some (.ret (.lit (.bool t)), h) := by kernel_rfl
end

/-- What a walk promises. -/
def WalkC (cs xs : List AV) : Prop := ∀ (d : Nat) (G : Gh) (w : World) (l : Nat) (rc : Loop) (rd : AV → Heap → Option (Option Code × Heap)) (xv : Value) (h : Heap) (j : Option Code) (h' : Heap), Ready G w l rc → RoundC Tryz.prog l d G w rc rd → RepA G.S w G.μ (.agg cs) xv → RepHeap G w h → Within G w →
  foldR rd xs h = some (j, h') → Calls Tryz.prog 287 #[xv, .func (.yield l) #[] #[]] w (PostY d G w l rc j h')

theorem callable : Callable Tryz.prog 287 := ⟨Tryz.f287, Tryz.func287, by kernel_rfl, rfl⟩

theorem slotA {d nt : Nat} {G0 G : Gh} {w0 w : World} {st : St} {a : Act} (r : RepSt d G w st a.tmps) {i : Nat} {x : AV} (h : st.s i = .c (.v x)) : RepA G.S w G.μ x (a.tmps.getD i undef) := by
  have := r.slot i
  rw [h] at this; exact this

theorem yl_val {S : Nat → Nat} {w : World} {μ : List Nat} {l : Nat} {v : Value} (h : RepA S w μ (yl l) v) : v = .func (.yield l) #[] #[] := h.litE

/-- The end: the result is told. -/
theorem done_ok {d l : Nat} {G0 : Gh} {w0 : World} {rc : Loop} {j : Option Code} {h' : Heap} {a : Act} {w : World} {t : Bool} (ht : t = j.isNone) (hat : AtSt d Tryz.f287.ntmps G0 (endW w0 l rc j) (S [(4, bv t)] h') a w) (hd : a.defers = []) : bodyPost Tryz.prog Tryz.f287 (PostY d G0 w0 l rc j h') .ret a w := by
  obtain ⟨G, r, hnt, hf⟩ := hat
  obtain ⟨v, k1, ⟨G', k2, k3, k4, k5⟩, _⟩ := finish_ok (G0 := G) (w0 := w) okE0 r.heap r (Fr.refl _ _ _) (fin4 h' t)
  have hv : v = .bool t := RepA.litE k5
  refine ⟨hd, v, k1, ?_, G', hf.trans k2, k3, k4⟩
  rw [hv, ht]

theorem loop_ok {n : Nat} (rec : ∀ cs xs, xs.length < n → Tr cs xs → WalkC cs xs) {d l : Nat} {G0 : Gh} {w0 : World} {rc : Loop} {rd : AV → Heap → Option (Option Code × Heap)} {kids : List (List AV)} {j : Option Code} {h' : Heap} (hk : kids.length ≤ 9223372036854775807)
    (rdy : Ready G0 w0 l rc) (rnd : RoundC Tryz.prog l d G0 w0 rc rd) {Q : Exit → Act → World → Prop}
    (hex : j = none → ∀ a w, AtSt d Tryz.f287.ntmps G0 (endW w0 l rc j) (S [(1, .c (.v (yl l)))] h') a w → a.defers = [] → Q (.exit 0) a w)
    (hret : j.isNone = false → ∀ a w, AtSt d Tryz.f287.ntmps G0 (endW w0 l rc j) (S [(4, bv false)] h') a w → a.defers = [] → Q .ret a w) :
    ∀ (m i : Nat) (ys : List AV) (h : Heap) (a : Act) (w : World), TrL (kids.drop i) ys → ys.length < n → i ≤ kids.length → kids.length < m + i → foldR rd ys h = some (j, h') → AtSt d Tryz.f287.ntmps G0 w0 (S [(1, .c (.v (yl l))), (12, .c (.v (.sl 7 kids))), (13, iv kids.length), (14, iv i)] h) a w → a.defers = [] →
      Code.roundsIn (FF none) 0 Tryz.prog lp Q m a w
  | 0, i, ys, h, a, w, _, _, h1, h2, _, _, _ => by omega
  | m + 1, i, ys, h, a, w, tr, hys, h1, h2, hf, hat, hd => by
    rw [roundsIn_succ]
    refine wpIn_seq (seg_keep okE0 (noCall_ok _) (H := HB) (n := 0) (bi := 0) [1, 12, 13, 14, 15] (e4 l kids h kids.length i) hat hd fun a1 w1 hat1 hd1 => ?_)
    obtain ⟨G1, r1, n1, f1⟩ := hat1
    have hb := (slotA (nt := 0) (G0 := G0) (w0 := w0) r1 (i := 15) rfl).litE
    by_cases hi : i < kids.length
    · rw [show decide ((i : Int) < (kids.length : Int)) = true from by simpa using hi] at hb
      refine wpIn_seq (wpIn_cond_true hb (wpIn_skip ?_))
      refine wpIn_seq (wpIn_block ?_)
      have hdr : kids.drop i = kids[i] :: kids.drop (i + 1) := List.drop_eq_getElem_cons hi
      rw [hdr] at tr
      obtain ⟨xs, ys', hxs, htl, rfl⟩ : ∃ xs ys', Tr kids[i] xs ∧ TrL (kids.drop (i + 1)) ys' ∧ ys = xs ++ ys' := by
        generalize kids[i] = e0 at tr; generalize kids.drop (i + 1) = r0 at tr
        cases tr with
        | cons h t => exact ⟨_, _, h, t, rfl⟩
      have hidx : indexA 7 (.sl 7 kids) (.lit (.int .i64 (i : Int))) = some kids[i] := by simp [indexA, slOf, intOf, hi]
      generalize hce : kids[i] = ce at hxs hidx
      have hxs0 := hxs
      obtain ⟨q0, q1, q2, q3, q4, q5, ks, hce2⟩ : ∃ q0 q1 q2 q3 q4 q5 ks, ce = [q0, q1, q2, q3, q4, q5, .sl 7 ks] := by cases hxs; exact ⟨_, _, _, _, _, _, _, rfl⟩
      subst hce2
      have k5 := e5 l kids h kids.length i (decide ((i : Int) < (kids.length : Int)))
      rw [hidx] at k5
      refine wpIn_seq (seg_keep okE0 (noCall_ok _) (H := HB) (n := 0) (bi := 0) [1, 12, 13, 14, 6] (h' := h) (l := [(1, .c (.v (yl l))), (12, .c (.v (.sl 7 kids))), (13, iv kids.length), (14, iv i), (6, lc [q0, q1, q2, q3, q4, q5, .sl 7 ks])]) k5 ⟨G1, r1, n1, f1⟩ hd1 fun a2 w2 hat2 hd2 => ?_)
      refine wpIn_seq (wpIn_region ?_)
      change wpOpsIn _ _ _ (opsOf R6) _ [0, 1, 2, 3] _ _
      rw [wpOpsIn_cons]
      refine step_keep okE0 (noCall_ok _) (H := {}) rfl [1, 12, 13, 14, 18] (e60 l q0 q1 q2 q3 q4 q5 ks h kids.length i kids) hat2 hd2 fun a3 w3 hat3 hd3 => ?_
      rw [wpOpsIn_cons]
      refine step_keep okE0 (noCall_ok _) (H := {}) rfl [1, 12, 13, 14, 18, 19] (e61 l kids h kids.length i (.agg [q0, q1, q2, q3, q4, q5, .sl 7 ks])) hat3 hd3 fun a4 w4 hat4 hd4 => ?_
      rw [wpOpsIn_cons]
      obtain ⟨G4, r4, n4, f4⟩ := hat4
      have rdy4 := rdy.later f4
      have v18 := slotA (nt := 0) (G0 := G0) (w0 := w0) r4 (i := 18) rfl
      have v19 := yl_val (slotA (nt := 0) (G0 := G0) (w0 := w0) r4 (i := 19) rfl)
      have hlen : xs.length < n := by rw [List.length_append] at hys; omega
      have step : ∀ (jj : Option Code) (hh : Heap), foldR rd xs h = some (jj, hh) → ∀ (K : Act → World → Prop) (Q : Exit → Act → World → Prop), (∀ a' G' w', RepSt d G' w' { s := upd (lkS [(1, .c (.v (yl l))), (12, .c (.v (.sl 7 kids))), (13, iv kids.length), (14, iv i), (18, .c (.v (.agg [q0, q1, q2, q3, q4, q5, .sl 7 ks]))), (19, .c (.v (yl l)))]) 20 (bv jj.isNone), h := hh } a'.tmps → a'.tmps.size = Tryz.f287.ntmps → a'.defers = a4.defers → Fr d G4 (endW w4 l rc jj) G' w' → K a' w') →
          wpOpIn (FF none) 0 Tryz.prog (opsOf R6) Q 2 K a4 w4 := by
        intro jj hh hfo K Q hK
        refine step_hand (o := o6 2) (nt := Tryz.f287.ntmps) (st := S _ h) rfl rfl rfl (fun c hc => by cases hc) (by decide) rfl r4 n4 rdy4 (.inl ⟨287, #[a4.tmps.getD 18 undef, .func (.yield l) #[] #[]], ?_, ?_⟩) hK
        · have := run_call (a := a4) (w := w4) Tryz.prog (o := o6 2) rfl rfl (f := 287) (fv := #[]) (cv := #[]) rfl callable
          rw [this]
          have e19 : a4.eval (.tmp 19) = .func (.yield l) #[] #[] := v19
          simp only [Array.map, Array.append_empty, Array.empty_append]
          congr 2
          show (#[.tmp 18, .tmp 19] : Array Operand).map a4.eval = _
          simp only [List.map_toArray, List.map_cons, List.map_nil, e19]
          rfl
        · exact rec _ xs hlen hxs0 (d + 1) G4 w4 l rc rd _ h jj hh rdy4 (rnd.later (Nat.le_succ d) f4 ) v18 r4.heap r4.within hfo
      rcases foldR_append hf with ⟨h3, k1, k2⟩ | ⟨c, k1, k2⟩
      · refine step none h3 k1 _ _ fun a5 G5 w5 r5 n5 d5 f5 => ?_
        rw [endW_none rdy4] at f5
        rw [wpOpsIn_cons]
        refine step_keep okE0 (noCall_ok _) (H := {}) rfl [1, 12, 13, 14, 21] (e63 l kids h3 kids.length i (.agg [q0, q1, q2, q3, q4, q5, .sl 7 ks]) true) ⟨G5, r5, n5, f4.trans f5⟩ (d5.trans hd4) fun a6 w6 hat6 hd6 => ?_
        obtain ⟨G6, r6, n6, f6⟩ := hat6
        refine wpIn_cond_false (slotA (nt := 0) (G0 := G0) (w0 := w0) r6 (i := 21) rfl).litE (wpIn_skip ?_)
        refine seg_keep okE0 (noCall_ok _) (H := HB) (n := 0) (bi := 0) [1, 12, 13, 14] (e8 l kids h3 kids.length i false) ⟨G6, r6, n6, f6⟩ hd6 fun a7 w7 hat7 hd7 => ?_
        rw [IntWalk.i64_in ((i : Int) + 1) (by omega)] at hat7
        exact loop_ok rec hk rdy rnd hex hret m (i + 1) ys' h3 a7 w7 htl (by rw [List.length_append] at hys; omega) hi (by omega) k2 hat7 hd7
      · have k2 : j = some c := k2
        subst k2
        refine step (some c) h' k1 _ _ fun a5 G5 w5 r5 n5 d5 f5 => ?_
        rw [wpOpsIn_cons]
        have f45 : Fr d G0 (endW w0 l rc (some c)) G5 w5 := (f4.put rdy.there rdy.own).trans f5
        refine step_keep okE0 (noCall_ok _) (H := {}) rfl [1, 12, 13, 14, 21] (e63 l kids h' kids.length i (.agg [q0, q1, q2, q3, q4, q5, .sl 7 ks]) false) ⟨G5, r5, n5, f45⟩ (d5.trans hd4) fun a6 w6 hat6 hd6 => ?_
        obtain ⟨G6, r6, n6, f6⟩ := hat6
        refine wpIn_cond_true (slotA (nt := 0) (G0 := G0) (w0 := w0) r6 (i := 21) rfl).litE ?_
        refine wpIn_seq (seg_keep okE0 (noCall_ok _) (H := HB) (n := 0) (bi := 0) [4] (e7 h' _) ⟨G6, r6, n6, f6⟩ hd6 fun a7 w7 hat7 hd7 => ?_)
        exact wpIn_ret (hret rfl a7 w7 hat7 hd7)
    · rw [show decide ((i : Int) < (kids.length : Int)) = false from by simpa using hi] at hb
      refine wpIn_seq (wpIn_cond_false hb (wpIn_exit ?_))
      have hdr : kids.drop i = [] := List.drop_eq_nil_of_le (by omega)
      rw [hdr] at tr
      cases tr
      have e := Prod.mk.inj (Option.some.inj hf)
      obtain ⟨ej, eh⟩ := e
      subst ej; subst eh
      refine hex rfl a1 w1 ?_ hd1
      rw [endW_none rdy]
      obtain ⟨_, rk, nk, fk⟩ := AtSt.keep (some [1]) ⟨G1, r1, n1, f1⟩
      exact ⟨_, rk, nk, fk⟩

theorem walk_ok : ∀ (n : Nat) (cs xs : List AV), xs.length < n → Tr cs xs → WalkC cs xs
  | 0, cs, xs, h, _ => by omega
  | n + 1, cs, xs, hlt, tr => by
    intro d G0 w0 l rc rd xv h j h' rdy rnd hx hh hw hf
    cases tr with
    | mk hk hl =>
    rename_i q0 q1 q2 q3 q4 q5 kids xs
    refine calls_of_wp Tryz.func287 rfl ?_
    refine (wpIn_wide (n := 0)).1 ?_
    have hat : AtSt d Tryz.f287.ntmps G0 w0 (S [(0, .c (.v (.agg [q0, q1, q2, q3, q4, q5, .sl 7 kids]))), (1, .c (.v (yl l)))] h) { tmps := #[xv, .func (.yield l) #[] #[]] ++ Array.replicate (Tryz.f287.ntmps - 2) undef, defers := [] } w0 := by
      refine ⟨G0, ⟨fun i => rep_two rfl rfl hx (.lit rfl) _ i, fun u t off hu => ?_, hh, hw⟩, by rw [Array.size_append, Array.size_replicate]; rfl, Fr.refl _ _ _⟩
      exfalso
      rcases u with _ | _ | u
      · cases hu
      · cases hu
      · cases hu
    refine wpIn_seq (seg_keep okE0 (noCall_ok _) (H := HB) (n := 0) (bi := 0) [1, 2] (e0 l q0 q1 q2 q3 q4 q5 kids h) hat rfl fun a1 w1 hat1 hd1 => ?_)
    refine wpIn_seq (wpIn_seq (wpIn_region ?_))
    change wpOpsIn _ _ _ (opsOf R1) _ [0, 1, 2, 3] _ _
    rw [wpOpsIn_cons]
    refine step_keep okE0 (noCall_ok _) (H := {}) rfl [1, 2, 7] (e10 l q0 q1 q2 q3 q4 q5 kids h) hat1 hd1 fun a3 w3 hat3 hd3 => ?_
    rw [wpOpsIn_cons]
    refine step_keep okE0 (noCall_ok _) (H := {}) rfl [1, 2, 7, 8] (e11 l q0 q1 q2 q3 q4 q5 kids h) hat3 hd3 fun a4 w4 hat4 hd4 => ?_
    rw [wpOpsIn_cons]
    obtain ⟨G4, r4, n4, f4⟩ := hat4
    have rdy4 := rdy.later f4
    have v8 := slotA (nt := 0) (G0 := G0) (w0 := w0) r4 (i := 8) rfl
    have v7 := yl_val (slotA (nt := 0) (G0 := G0) (w0 := w0) r4 (i := 7) rfl)
    have step : ∀ (jj : Option Code) (hh : Heap), rd (.agg [q0, q1, q2, q3, q4, q5, .sl 7 kids]) h = some (jj, hh) → ∀ (K : Act → World → Prop) (Q : Exit → Act → World → Prop), (∀ a' G' w', RepSt d G' w' { s := upd (lkS [(1, .c (.v (yl l))), (2, lc [q0, q1, q2, q3, q4, q5, .sl 7 kids]), (7, .c (.v (yl l))), (8, .c (.v (.agg [q0, q1, q2, q3, q4, q5, .sl 7 kids])))]) 9 (bv jj.isNone), h := hh } a'.tmps → a'.tmps.size = Tryz.f287.ntmps → a'.defers = a4.defers → Fr d G4 (endW w4 l rc jj) G' w' → K a' w') →
        wpOpIn (FF none) 0 Tryz.prog (opsOf R1) Q 2 K a4 w4 := by
      intro jj hh hfo K Q hK
      obtain ⟨fn, tmps, assign, body, y1, y2⟩ := rnd 0 (d + 1) G4 w4 (.agg [q0, q1, q2, q3, q4, q5, .sl 7 kids]) (a4.tmps.getD 8 undef) h jj hh (Nat.le_succ d) f4 v8 r4.heap r4.within hfo
      refine step_hand (o := o1 2) (nt := Tryz.f287.ntmps) (st := S _ h) rfl rfl rfl (fun c hc => by cases hc) (by decide) rfl r4 n4 rdy4 (.inr ⟨l, fn, tmps, assign, body, ?_, y2⟩) hK
      exact run_yieldOp (a := a4) (w := w4) Tryz.prog (o := o1 2) rfl rfl v7 (by
        show (Instr.yield l ((#[.tmp 8] : Array Operand).map a4.eval)).run Tryz.prog w4 = _
        simp only [List.map_toArray, List.map_cons, List.map_nil]
        exact y1)
    rcases foldR_cons hf with ⟨h3, k1, k2⟩ | ⟨c, k1, k2⟩
    · refine step none h3 k1 _ _ fun a5 G5 w5 r5 n5 d5 f5 => ?_
      rw [endW_none rdy4] at f5
      rw [wpOpsIn_cons]
      refine step_keep okE0 (noCall_ok _) (H := {}) rfl [1, 2, 10] (e13 l q0 q1 q2 q3 q4 q5 kids h3 true) ⟨G5, r5, n5, f4.trans f5⟩ (d5.trans hd4) fun a6 w6 hat6 hd6 => ?_
      obtain ⟨G6, r6, n6, f6⟩ := hat6
      refine wpIn_cond_false (slotA (nt := 0) (G0 := G0) (w0 := w0) r6 (i := 10) rfl).litE (wpIn_skip ?_)
      refine wpIn_seq (wpIn_seq (seg_keep okE0 (noCall_ok _) (H := HB) (n := 0) (bi := 0) [1, 12, 13, 14] (e3 l q0 q1 q2 q3 q4 q5 kids h3 false) ⟨G6, r6, n6, f6⟩ hd6 fun a7 w7 hat7 hd7 => ?_))
      refine wpIn_block (wpIn_loop_rounds (kids.length + 1) ?_)
      refine loop_ok (walk_ok n) hl rdy rnd ?_ ?_ (kids.length + 1) 0 xs h3 a7 w7 (by rw [List.drop_zero]; exact hk) (by simp only [List.length_cons] at hlt; omega) (Nat.zero_le _) (by omega) k2 hat7 hd7
      · intro hj a w hat hd
        show Code.wpIn (FF none) 0 Tryz.prog (pR tl) (bodyPost Tryz.prog Tryz.f287 (PostY d G0 w0 l rc j h')) a w
        refine wpIn_seq (seg_keep okE0 (noCall_ok _) (H := HB) (n := 0) (bi := 0) [4] (e9 h' _) hat hd fun a8 w8 hat8 hd8 => ?_)
        exact wpIn_ret (done_ok (by rw [hj]; rfl) hat8 hd8)
      · intro hj a w hat hd
        exact done_ok hj.symm hat hd
    · have k2 : j = some c := k2
      subst k2
      refine step (some c) h' k1 _ _ fun a5 G5 w5 r5 n5 d5 f5 => ?_
      rw [wpOpsIn_cons]
      have f45 : Fr d G0 (endW w0 l rc (some c)) G5 w5 := (f4.put rdy.there rdy.own).trans f5
      refine step_keep okE0 (noCall_ok _) (H := {}) rfl [1, 2, 10] (e13 l q0 q1 q2 q3 q4 q5 kids h' false) ⟨G5, r5, n5, f45⟩ (d5.trans hd4) fun a6 w6 hat6 hd6 => ?_
      obtain ⟨G6, r6, n6, f6⟩ := hat6
      refine wpIn_cond_true (slotA (nt := 0) (G0 := G0) (w0 := w0) r6 (i := 10) rfl).litE ?_
      refine wpIn_seq (seg_keep okE0 (noCall_ok _) (H := HB) (n := 0) (bi := 0) [4] (e2 h' _) ⟨G6, r6, n6, f6⟩ hd6 fun a7 w7 hat7 hd7 => ?_)
      exact wpIn_ret (done_ok rfl hat7 hd7)

/- the iterator: a closure that goes on to the walk -/
noncomputable def it : Code := Tryz.f286.body.getD .skip
noncomputable def oi (i : Nat) : Oper := (opsOf it).getD i default
abbrev HI : FHint := { hp := [1] }
theorem i0 (l i : Nat) (h : Heap) : stepK E0 HI Tryz.f286.ntmps noCall (opsOf it) 0 (oi 0) (S [(0, .c (.v (yl l))), (1, .c (.v (.hp i 0)))] h) (kLs [0, 3]) kN = (hpart true 7 0 i h).bind fun v => some ([(0, .c (.v (yl l))), (3, .c (.v v))], h) := by kernel_rfl
theorem i1 (l : Nat) (x : AV) (h : Heap) : stepK E0 HI Tryz.f286.ntmps noCall (opsOf it) 1 (oi 1) (S [(0, .c (.v (yl l))), (3, .c (.v x))] h) (kLs [3, 4]) kN = some ([(3, .c (.v x)), (4, .c (.v (yl l)))], h) := by kernel_rfl
theorem ifin (st : Nat → Slot) (h : Heap) : finish E0 {} Tryz.f286 h { s := st, h := h } = some (.ret (.tup []), h) := by kernel_rfl

theorem iter_ok {cs xs : List AV} {h : Heap} {i : Nat} (tr : Tr cs xs) (hi : (h[i]?).map (·.map Cell.get) = some cs) : IterC Tryz.prog 286 [.hp i 0] xs h := by
  refine ⟨⟨Tryz.f286, Tryz.func286, by kernel_rfl, rfl⟩, fun d G w l rc rd cv j h' rdy rnd hcv hh hw hf => ?_⟩
  obtain ⟨l0⟩ := cv
  have hcv : RepL G.S w G.μ [.hp i 0] l0 := hcv
  obtain ⟨x1, rfl⟩ : ∃ x, l0 = [x] := by cases hcv with | cons h t => cases t; exact ⟨_, rfl⟩
  have hx : RepA G.S w G.μ (.hp i 0) x1 := by cases hcv with | cons h _ => exact h
  refine calls_of_wp Tryz.func286 rfl ?_
  refine (wpIn_wide (n := 0)).1 ?_
  have hat : AtSt d Tryz.f286.ntmps G w (S [(0, .c (.v (yl l))), (1, .c (.v (.hp i 0)))] h) { tmps := #[.func (.yield l) #[] #[], x1] ++ Array.replicate (Tryz.f286.ntmps - 2) undef, defers := [] } w := by
    refine ⟨G, ⟨fun i => rep_two rfl rfl (.lit rfl) hx _ i, fun u t off hu => ?_, hh, hw⟩, by rw [Array.size_append, Array.size_replicate]; rfl, Fr.refl _ _ _⟩
    exfalso
    rcases u with _ | _ | u
    · cases hu
    · cases hu
    · cases hu
  refine wpIn_region ?_
  change wpOpsIn _ _ _ (opsOf it) _ [0, 1, 2] _ _
  rw [wpOpsIn_cons]
  have hp : hpart true 7 0 i h = some (.agg cs) := by
    obtain ⟨c0, h1, h2⟩ := Option.map_eq_some_iff.1 hi
    unfold hpart
    rw [h1, Option.bind_some, h2]
    unfold partG
    rw [show cs.isEmpty = false from by cases cs with | nil => exact absurd tr.len (by simp) | cons _ _ => rfl, cond_false]
    exact partAll tr.len
  have k0 := i0 l i h
  rw [hp] at k0
  refine step_keep okE0 (noCall_ok _) (H := HI) rfl [0, 3] (l := [(0, .c (.v (yl l))), (3, .c (.v (.agg cs)))]) (h' := h) k0 hat rfl fun a3 w3 hat3 hd3 => ?_
  rw [wpOpsIn_cons]
  refine step_keep okE0 (noCall_ok _) (H := HI) rfl [3, 4] (i1 l (.agg cs) h) hat3 hd3 fun a4 w4 hat4 hd4 => ?_
  rw [wpOpsIn_cons]
  obtain ⟨G4, r4, n4, f4⟩ := hat4
  have rdy4 := rdy.later f4
  have v3 := slotA (nt := 0) (G0 := G) (w0 := w) r4 (i := 3) rfl
  have v4 := yl_val (slotA (nt := 0) (G0 := G) (w0 := w) r4 (i := 4) rfl)
  refine step_hand (o := oi 2) (nt := Tryz.f286.ntmps) (st := S _ h) rfl rfl rfl (fun c hc => by cases hc) (by decide) rfl r4 n4 rdy4 (j := j) (h' := h') (.inl ⟨287, #[a4.tmps.getD 3 undef, .func (.yield l) #[] #[]], ?_, ?_⟩) fun a5 G5 w5 r5 n5 d5 f5 => ?_
  · have := run_call (a := a4) (w := w4) Tryz.prog (o := oi 2) rfl rfl (f := 287) (fv := #[]) (cv := #[]) rfl callable
    rw [this]
    have e4 : a4.eval (.tmp 4) = .func (.yield l) #[] #[] := v4
    simp only [Array.map, Array.append_empty, Array.empty_append]
    congr 2
    show (#[.tmp 3, .tmp 4] : Array Operand).map a4.eval = _
    simp only [List.map_toArray, List.map_cons, List.map_nil, e4]
    rfl
  · exact walk_ok _ _ xs (Nat.lt_succ_self _) tr (d + 1) G4 w4 l rc rd _ h j h' rdy4 (rnd.later (Nat.le_succ d) f4) v3 r4.heap r4.within hf
  · obtain ⟨v, k1, ⟨G', k2, k3, k4, k5⟩, _⟩ := finish_ok (G0 := G5) (w0 := w5) okE0 r5.heap r5 (Fr.refl _ _ _) (ifin _ h')
    exact ⟨d5.trans hd4, v, k1, ⟨v, rfl⟩, G', ((f4.put rdy.there rdy.own).trans f5).trans k2, k3, k4⟩
end W26
end Go.Sh.T

/- exp.Count: ranges over a function, by their shadow. -/
namespace Go.Sh.T
set_option maxRecDepth 100000
set_option linter.unusedVariables false
set_option linter.unusedSimpArgs false
open Go Go.Sh Go.Proofs

namespace HE
open W26 (Tr TrL pL pR)
theorem noPrims0 : PrimsOk E0 := fun f p h => by cases h
noncomputable def call0 : Nat → List AV → Heap → R := ev E0 1
theorem call0_ok : SoundC Tryz.prog call0 := ev_ok okE0 noPrims0 1

/- the terms within a term -/
mutual
def preA : AV → Option (List AV)
  | .sl 7 es => bif Nat.ble es.length 9223372036854775807 then preE es else none
  | _ => none
def preC : List AV → Option (List AV)
  | [] => none
  | a :: r => match r with
    | [b, c, d, e, f, .sl 7 ks] => (preA (.sl 7 ks)).bind fun xs => some (.agg [a, b, c, d, e, f, .sl 7 ks] :: xs)
    | _ => none
def preE : List (List AV) → Option (List AV)
  | [] => some []
  | x :: r => (preC x).bind fun xs => (preE r).bind fun ys => some (xs ++ ys)
end
mutual
theorem preA_ok : ∀ {a : AV} {xs : List AV}, preA a = some xs → ∃ ks, a = .sl 7 ks ∧ ks.length ≤ 9223372036854775807 ∧ TrL ks xs
  | .sl n es, xs, h => by
    unfold preA at h
    split at h
    · rename_i h1 h2; cases h2
      obtain ⟨hl, h⟩ := condE h
      exact ⟨_, rfl, bleE hl, preE_ok h⟩
    · cases h
  | .lit _, xs, h => by unfold preA at h; cases h
  | .agg _, xs, h => by unfold preA at h; cases h
  | .tup _, xs, h => by unfold preA at h; cases h
  | .hp _ _, xs, h => by unfold preA at h; cases h
  | .ro _, xs, h => by unfold preA at h; cases h
  | .fn _ _ _, xs, h => by unfold preA at h; cases h
  | .ifc _ _, xs, h => by unfold preA at h; cases h
  | .dead, xs, h => by unfold preA at h; cases h
theorem preC_ok : ∀ {c : List AV} {xs : List AV}, preC c = some xs → Tr c xs
  | [], xs, h => by unfold preC at h; cases h
  | a :: r, xs, h => by
    unfold preC at h
    split at h
    · rename_i b c d e f ks
      rw [Option.bind_eq_some_iff] at h; obtain ⟨ys, hy, h⟩ := h
      have h := Option.some.inj h; subst h
      obtain ⟨ks', e1, e2, e3⟩ := preA_ok hy
      cases e1
      exact .mk e3 e2
    · cases h
theorem preE_ok : ∀ {l : List (List AV)} {xs : List AV}, preE l = some xs → TrL l xs
  | [], xs, h => by unfold preE at h; cases h; exact .nil
  | x :: r, xs, h => by
    unfold preE at h
    rw [Option.bind_eq_some_iff] at h; obtain ⟨xs1, h1, h⟩ := h
    rw [Option.bind_eq_some_iff] at h; obtain ⟨ys, h2, h⟩ := h
    have h := Option.some.inj h; subst h
    exact .cons (preC_ok h1) (preE_ok h2)
end
theorem Tr.explicit {c xs : List AV} (h : Tr c xs) : ∃ q0 q1 q2 q3 q4 q5 ks, c = [q0, q1, q2, q3, q4, q5, .sl 7 ks] := by
  cases h; exact ⟨_, _, _, _, _, _, _, rfl⟩
theorem Tr.all {c xs : List AV} (h : Tr c xs) : ∀ x ∈ xs, ∃ q0 q1 q2 q3 q4 q5 ks, x = .agg [q0, q1, q2, q3, q4, q5, .sl 7 ks] := by
  have key : ∀ n : Nat, (∀ c xs, xs.length < n → Tr c xs → ∀ x ∈ xs, ∃ q0 q1 q2 q3 q4 q5 ks, x = .agg [q0, q1, q2, q3, q4, q5, .sl 7 ks]) ∧ (∀ l xs, xs.length < n → TrL l xs → ∀ x ∈ xs, ∃ q0 q1 q2 q3 q4 q5 ks, x = .agg [q0, q1, q2, q3, q4, q5, .sl 7 ks]) := by
    intro n
    induction n with
    | zero => exact ⟨fun _ _ h => by omega, fun _ _ h => by omega⟩
    | succ n ih =>
      have h1 : ∀ c xs, xs.length < n + 1 → Tr c xs → ∀ x ∈ xs, ∃ q0 q1 q2 q3 q4 q5 ks, x = .agg [q0, q1, q2, q3, q4, q5, .sl 7 ks] := by
        intro c xs hl ht x hx
        cases ht with
        | mk hk _ =>
          rcases List.mem_cons.1 hx with e | e
          · exact ⟨_, _, _, _, _, _, _, e⟩
          · exact ih.2 _ _ (by simpa using hl) hk x e
      refine ⟨h1, fun l => ?_⟩
      induction l with
      | nil => intro xs _ ht x hx; cases ht; cases hx
      | cons y r ihl =>
        intro xs hl ht x hx
        cases ht with
        | cons ha hb =>
          rw [List.length_append] at hl
          rcases List.mem_append.1 hx with e | e
          · exact h1 _ _ (by omega) ha x e
          · exact ihl _ (by omega) hb x e
  exact (key (xs.length + 1)).1 c xs (Nat.lt_succ_self _) h

abbrev fnC (i : Nat) : Slot := .c (.v (.fn 286 [] [.hp i 0]))
abbrev hpS (i : Nat) : Slot := .c (.v (.hp i 0))
abbrev iv (i : Int) : Slot := .c (.v (.lit (.int .i64 i)))

/- Nodes -/
namespace N
def asg : Code → Code
  | .rangeFunc _ _ a _ => a
  | c => c
def bod : Code → Code
  | .rangeFunc _ _ _ b => b
  | c => c
abbrev HH : FHint := { hb := [3], hp := [3] }
section
variable (q0 q1 q2 q3 q4 q5 : AV) (ks : List (List AV)) (h : Heap)
end

def cntW : List AV → Int → Int
  | [], n => n
  | _ :: r, n => cntW r (IntKind.i64.wrap (n + 1))
end N
end HE
end Go.Sh.T

/- exp.At: a range over a function that returns, by its shadow. -/
namespace Go.Sh.T
set_option maxRecDepth 100000
set_option linter.unusedVariables false
set_option linter.unusedSimpArgs false
open Go Go.Sh Go.Proofs

namespace HE
open W26 (Tr TrL pL pR)
/- what is told on of a value, is as deep -/
theorem Tr.lt {c xs : List AV} (tr : Tr c xs) (h : ∀ a ∈ c, AV.lt 0 a) : ∀ x ∈ xs, AV.lt 0 x := by
  have key : ∀ n : Nat, (∀ c xs, xs.length < n → Tr c xs → (∀ a ∈ c, AV.lt 0 a) → ∀ x ∈ xs, AV.lt 0 x) ∧ (∀ l xs, xs.length < n → TrL l xs → (∀ e ∈ l, ∀ a ∈ e, AV.lt 0 a) → ∀ x ∈ xs, AV.lt 0 x) := by
    intro n
    induction n with
    | zero => exact ⟨fun _ _ h => by omega, fun _ _ h => by omega⟩
    | succ n ih =>
      have h1 : ∀ c xs, xs.length < n + 1 → Tr c xs → (∀ a ∈ c, AV.lt 0 a) → ∀ x ∈ xs, AV.lt 0 x := by
        intro c xs hl ht hc x hx
        cases ht with
        | mk hk _ =>
          rcases List.mem_cons.1 hx with e | e
          · rw [e]; exact .agg hc
          · refine ih.2 _ _ (by simpa using hl) hk ?_ x e
            have := hc _ (List.mem_cons_of_mem _ (List.mem_cons_of_mem _ (List.mem_cons_of_mem _ (List.mem_cons_of_mem _ (List.mem_cons_of_mem _ (List.mem_cons_of_mem _ List.mem_cons_self))))))
            cases this with
            | sl _ h => exact h
      refine ⟨h1, fun l => ?_⟩
      induction l with
      | nil => intro xs _ ht _ x hx; cases ht; cases hx
      | cons y r ihl =>
        intro xs hl ht hc x hx
        cases ht with
        | cons ha hb =>
          rw [List.length_append] at hl
          rcases List.mem_append.1 hx with e | e
          · exact h1 _ _ (by omega) ha (fun a h => hc _ List.mem_cons_self a h) x e
          · exact ihl _ (by omega) hb (fun e h => hc e (List.mem_cons_of_mem _ h)) x e
  exact (key (xs.length + 1)).1 c xs (Nat.lt_succ_self _) tr h

/- At -/
namespace A
abbrev HH : FHint := { hb := [3, 4, 5, 6], hp := [3, 4, 5, 6] }
abbrev Z0 : List AV := [.lit (.int .i64 0), .lit (.int .i64 0), .lit (.string ByteArray.empty), .lit (.bool false), .sl 5 [], .sl 1 [], .sl 7 []]
abbrev Zc : List Cell := [.v (.lit (.int .i64 0)), .v (.lit (.int .i64 0)), .v (.lit (.string ByteArray.empty)), .v (.lit (.bool false)), .own 5 [], .own 1 [], .own 7 []]
abbrev LL (i j l m : Nat) : List (Nat × Slot) := [(3, hpS i), (4, hpS j), (5, hpS l), (6, hpS m)]
section
variable (q0 q1 q2 q3 q4 q5 : AV) (ks : List (List AV)) (h : Heap) (k : Int)
end

/-- The one at which the count comes to it. -/
def atW (k : Int) : List AV → Int → Option AV
  | [], _ => none
  | x :: r, n => bif IntKind.i64.wrap (n + 1) == k then some x else atW k r (IntKind.i64.wrap (n + 1))
def cellsV : AV → List Cell
  | .agg cs => cs.map .v
  | _ => []
def outW (h : Heap) (k n : Int) (z : List (List Cell)) : Option AV → Option Code × Heap
  | some x => (some .ret, h ++ ([.v (.lit (.int .i64 k))] :: cellsV x :: [.v (.lit (.bool true))] :: [.v (.lit (.int .i64 n))] :: z))
  | none => (none, h ++ ([.v (.lit (.int .i64 k))] :: Zc :: [.v (.lit (.bool false))] :: [.v (.lit (.int .i64 n))] :: z))
def retW : Option AV → AV
  | some x => .tup [x, .lit (.bool true)]
  | none => .tup [.agg Z0, .lit (.bool false)]

end A
end HE
end Go.Sh.T

/- exp.Nodes: a range over a function, with a loop and a call in each round, by its shadow. -/
namespace Go.Sh.T
set_option maxRecDepth 100000
set_option linter.unusedVariables false
set_option linter.unusedSimpArgs false
open Go Go.Sh Go.Proofs

theorem sameHself {ρ : Type} (h : Heap) (x : Option ρ) : sameH h h x = x := by unfold sameH; rw [if_pos rfl]
/-- A place in code, whatever comes out. -/
noncomputable def ctxG {ρ : Type} (E : Env) (H : FHint) (nt : Nat) (F : Nat → List AV → Heap → R) (n : Nat) (Kp : AV → Heap → Option ρ) : List Dir → Code → Nat → (Ex → St → Option ρ) → Code × Nat × (Ex → St → Option ρ)
  | .l :: p, .seq a b, bi, K => ctxG E H nt F n Kp p a bi (fun e st' => match e with
      | .normal => evC E H nt F n b bi st' K Kp
      | .exit i => K (.exit i) st'
      | .ret => K .ret st')
  | .r :: p, .seq a b, bi, K => ctxG E H nt F n Kp p b bi K
  | .t :: p, .cond c a b, bi, K => ctxG E H nt F n Kp p a bi K
  | .e :: p, .cond c a b, bi, K => ctxG E H nt F n Kp p b bi K
  | .b :: p, .block i c, _, K => ctxG E H nt F n Kp p c i (fun e st' => match e with
      | .normal => K .normal (st'.keep (lkN H.keep i))
      | .exit j => bif Nat.beq j i then K .normal (st'.keep (lkN H.keep i)) else K (.exit j) st'
      | .ret => K .ret st')
  | _, c, bi, K => (c, bi, K)
/-- A loop within a round, with so many rounds left. -/
noncomputable def loopG (E : Env) (H : FHint) (nt : Nat) (F : Nat → List AV → Heap → R) (n : Nat) (body : Code) (p : List Dir) (m : Nat) (st : St) : Option (Option Code × Heap) :=
  match ctxG E H nt F n (fun _ _ => none) p body 0 (fun e st' => match e with
      | .normal => some (none, st'.h)
      | .ret => some (some .ret, st'.h)
      | .exit i => some (some (.exit i), st'.h)) with
  | (.loop c, bi, K) => loopK (fun st K => evC E H nt F n c bi st (keepB H bi K) (fun _ _ => none)) m st K
  | _ => none

namespace HE
open W26 (Tr TrL pL pR)
noncomputable def E1 : Env := mkEnv Tryz.prog fs ts [(238, p238)] hints []
theorem okE1 : E1.Ok := mkEnv_ok (gs := [(238, Tryz.f238)]) allF ⟨Tryz.func238, trivial⟩ allT (by kernel_rfl) (by kernel_rfl) rfl (by kernel_rfl) (by kernel_rfl)
theorem prims1 : PrimsOk E1 := by
  intro f p hf call hs args h out h' e
  have hf : lkN [(238, p238)] f = some p := hf
  have hm := lkN_mem hf
  simp only [List.mem_cons, Prod.mk.injEq, List.not_mem_nil, or_false] at hm
  obtain ⟨rfl, rfl⟩ := hm
  exact p238_ok call args h out h' e
noncomputable def call1 : Nat → List AV → Heap → R := ev E1 1
theorem call1_ok : SoundC Tryz.prog call1 := ev_ok okE1 prims1 1
theorem call1_45 (args : List AV) (h : Heap) : call1 238 args h = p238 (ev E1 0) args h := (Eq.refl _).trans rfl

namespace M
noncomputable def body : Code := Tryz.f236.body.getD .skip
noncomputable def A := pL body
noncomputable def A2 := pL (pR body)
noncomputable def B := pL (pL (pR (pR body)))
noncomputable def rng := pL (pR (pL (pR (pR body))))
noncomputable def rest := pR (pR (pR body))
abbrev HH : FHint := { hb := [3], hp := [3], pure := [21], base := [(12, 4)], keep := [(2, [3, 13, 14, 15])] }
noncomputable def Lp (n m : Nat) (h : Heap) (i : Nat) (x y w : AV) : Option (Option Code × Heap) := loopG E1 HH Tryz.f236.ntmps call1 n (N.bod rng) [.b, .r, .r, .b] m { s := lkS [(3, .c (.v (.hp i 0))), (13, .c (.v x)), (14, .c (.v y)), (15, .c (.v w))], h := h }
section
variable (q0 q1 q2 q3 q4 q5 : AV) (ks : List (List AV)) (h : Heap) (n : Nat)
theorem kA : evC E1 HH Tryz.f236.ntmps call1 n A 0 { s := lkS (argSlots 0 [.agg [q0, q1, q2, q3, q4, q5, .sl 7 ks]]), h := h } (kL [1, 2]) kN = some ([(1, .loc ([q0, q1, q2, q3, q4, q5, .sl 7 ks].map .v)), (2, iv 0)], h) := by kernel_rfl
theorem kA2 (x : Slot) : evC E1 HH Tryz.f236.ntmps call1 n A2 0 { s := lkS [(1, .loc ([q0, q1, q2, q3, q4, q5, .sl 7 ks].map .v)), (2, x)], h := h } (kL [1, 3]) kN = (hstore (h ++ ([[.v (.lit (.int .i64 0))]] : Heap)) h.length 0 [.v (.lit (.int .i64 0))]).bind fun h2 => some ([(1, .loc ([q0, q1, q2, q3, q4, q5, .sl 7 ks].map .v)), (3, hpS h.length)], h2) := by kernel_rfl
theorem kB (i : Nat) : evC E1 HH Tryz.f236.ntmps call1 n B 0 { s := lkS [(1, .loc ([q0, q1, q2, q3, q4, q5, .sl 7 ks].map .v)), (3, hpS i)], h := h } (kL [3, 8]) kN = some ([(3, hpS i), (8, fnC h.length)], h ++ [[q0, q1, q2, q3, q4, q5, .sl 7 ks].map .v]) := by kernel_rfl
theorem kR (i3 : Nat) (q6 : AV) : roundE E1 HH Tryz.f236.ntmps call1 n (lkS [(3, hpS i3)]) 9 (N.asg rng) (N.bod rng) (.agg [q0, q1, q2, q3, q4, q5, q6]) h =
    (hpart false 1 0 i3 h).bind fun v1 => (binAV E1 .add 3 v1 (.lit (.int .i64 1))).bind fun r2 => cond (AV.one r2) ((hstore h i3 0 [.v r2]).bind fun h3 => (lenA E1 35 q4).bind fun n4 => Lp n n h3 i3 q4 (.lit (.int .i64 n4)) (.lit (.int .i64 0))) none := by kernel_rfl
theorem Lp_succ (m : Nat) (i5 : Nat) (x6 x7 x8 : AV) : Lp n (m + 1) h i5 x6 x7 x8 = (binAV E1 .lss 3 x8 x7).bind fun r9 => (boolOf r9).bind fun b10 => cond b10 ((indexA 5 x6 x8).bind fun e11 => (partA true 5 0 e11).bind fun v12 => (aggOf v12).bind fun l13 => cond (Nat.beq l13.length 5) ((hpart false 1 0 i5 h).bind fun v14 => onOut (call1 238 [.agg [(l13.getD 0 .dead), (l13.getD 1 .dead), (l13.getD 2 .dead), (l13.getD 3 .dead), (l13.getD 4 .dead)]] h) (fun a15 h16 => sameH h h16 ((binAV E1 .add 3 v14 a15).bind fun r17 => cond (AV.one r17) ((hstore h i5 0 [.v r17]).bind fun h18 => (binAV E1 .add 3 x8 (.lit (.int .i64 1))).bind fun r19 => Lp n m h18 i5 x6 x7 r19) none)) (fun _ _ _ => none) (fun _ _ => none)) none) (some (none, h)) := by kernel_rfl
theorem kC (h0 : Heap) (i : Nat) (f : Slot) : evC E1 HH Tryz.f236.ntmps call1 n rest 0 { s := lkS [(3, hpS i), (8, f)], h := h } (fun e st' => match e with | .exit _ => none | _ => finish E1 HH Tryz.f236 h0 st') (fun _ _ => none) =
    (hpart false 1 0 i h).bind fun a => trunc HH h0 (.ret a) h := by kernel_rfl
end

/-- How many nodes a type has, as it is counted. -/
def tyN (t : Ty) : Int := H34.N.cntW (t.pre.map fun x => .agg x.cells) 0
def addT : List Ty → Int → Int
  | [], n => n
  | t :: r, n => addT r (IntKind.i64.wrap (n + tyN t))
def typesOf : AV → Option (List Ty)
  | .agg [_, _, _, _, t, _, _] => decA t
  | _ => none
def nodW : List AV → Int → Option Int
  | [], n => some n
  | x :: r, n => (typesOf x).bind fun ts => bif Ty.smallL ts && Nat.ble ts.length 9223372036854775807 then nodW r (addT ts (IntKind.i64.wrap (n + 1))) else none

theorem smallL_get : ∀ {l : List Ty} {i : Nat} (hi : i < l.length), Ty.smallL l = true → l[i].small = true
  | t :: r, 0, hi, h => by rw [Ty.smallL, Bool.and_eq_true] at h; exact h.1
  | t :: r, i + 1, hi, h => by rw [Ty.smallL, Bool.and_eq_true] at h; exact smallL_get (l := r) (by simpa using hi) h.2
theorem lenE1 (es : List (List AV)) : lenA E1 35 (.sl 5 es) = some (es.length : Int) := (Eq.refl _).trans (by kernel_rfl)

theorem loop (h : Heap) (z : List (List Cell)) (ts : List Ty) (hs : Ty.smallL ts = true) (hl : ts.length ≤ 9223372036854775807) (n : Nat) : ∀ (m i : Nat) (acc : Int), i ≤ ts.length → ts.length < m + i →
    Lp n m (h ++ ([.v (.lit (.int .i64 acc))] :: z)) h.length (.sl 5 (ts.map Ty.cells)) (.lit (.int .i64 (ts.length : Int))) (.lit (.int .i64 (i : Int))) = some (none, h ++ ([.v (.lit (.int .i64 (addT (ts.drop i) acc)))] :: z)) := by
  intro m
  induction m with
  | zero => intro i acc h1 h2; omega
  | succ m ih =>
    intro i acc h1 h2
    rw [Lp_succ]
    simp only [bin_int, lssI, bind_some', boolB]
    by_cases hi : i < ts.length
    · rw [ltT hi, condT, indexA_map _ _ _ _ hi, bind_some', partA_full (Ty.cells_len _), bind_some', aggS, bind_some', Ty.cells_len, show Nat.beq 5 5 = true from rfl, condT, hpart_app0, show hpart false 1 0 0 ([.v (.lit (.int .i64 acc))] :: z) = some (.lit (.int .i64 acc)) from rfl, bind_some', Ty.refold, call1_45]
      have e45 : p238 (ev E1 0) [.agg ts[i].cells] (h ++ ([.v (.lit (.int .i64 acc))] :: z)) = some (.ret (.lit (.int .i64 (tyN ts[i]))), (h ++ ([.v (.lit (.int .i64 acc))] :: z))) := by
        show ((decC ts[i].cells).bind fun t => bif t.small then some (Out.ret (.lit (.int .i64 (H34.N.cntW (t.pre.map fun x => .agg x.cells) 0))), (h ++ ([.v (.lit (.int .i64 acc))] :: z))) else none) = _
        rw [decC_cells, Option.bind_some, smallL_get hi hs]; rfl
      rw [e45, onOut_ret, sameHself, bin_int, addI, bind_some', show AV.one (.lit (.int .i64 (add64 acc (tyN ts[i])))) = true from rfl, condT, hstore_app0, show hstore ([.v (.lit (.int .i64 acc))] :: z) 0 0 [.v (.lit (.int .i64 (add64 acc (tyN ts[i]))))] = some ([.v (.lit (.int .i64 (add64 acc (tyN ts[i]))))] :: z) from rfl, Option.map_some, bind_some', addI, bind_some', incI (by omega), ih (i + 1) _ hi (by omega)]
      rw [List.drop_eq_getElem_cons hi, addT]; rfl
    · rw [ltF hi, condF, List.drop_of_length_le (by omega), addT]

theorem typesOf_ok {x : AV} {ts : List Ty} (h : typesOf x = some ts) : ∃ q0 q1 q2 q3 q5 q6, x = .agg [q0, q1, q2, q3, .sl 5 (ts.map Ty.cells), q5, q6] := by
  unfold typesOf at h
  split at h
  · rw [decA_ok h]; exact ⟨_, _, _, _, _, _, rfl⟩
  · cases h

theorem fold (h : Heap) (z : List (List Cell)) : ∀ (l : List AV) (n r : Int), nodW l n = some r → foldR (roundE E1 HH Tryz.f236.ntmps call1 9223372036854775809 (lkS [(3, hpS h.length)]) 9 (N.asg rng) (N.bod rng)) l (h ++ ([.v (.lit (.int .i64 n))] :: z)) = some (none, h ++ ([.v (.lit (.int .i64 r))] :: z))
  | [], n, r, e => by cases e; rfl
  | x :: l, n, r, e => by
    unfold nodW at e
    rw [Option.bind_eq_some_iff] at e; obtain ⟨ts, ht, e⟩ := e
    obtain ⟨hc, e⟩ := condE e
    rw [Bool.and_eq_true] at hc
    obtain ⟨q0, q1, q2, q3, q5, q6, rfl⟩ := typesOf_ok ht
    have ih := fold h z l _ _ e
    have hl : ts.length ≤ 9223372036854775807 := Nat.le_of_ble_eq_true hc.2
    obtain ⟨N, hN⟩ : ∃ N : Nat, N = 9223372036854775809 := ⟨_, rfl⟩
    rw [← hN] at ih ⊢
    rw [foldR, kR, hpart_app0, show hpart false 1 0 0 ([.v (.lit (.int .i64 n))] :: z) = some (.lit (.int .i64 n)) from rfl, bind_some', bin_int, addI, bind_some', show AV.one (.lit (.int .i64 (add64 n 1))) = true from rfl, condT, hstore_app0, show hstore ([.v (.lit (.int .i64 n))] :: z) 0 0 [.v (.lit (.int .i64 (add64 n 1)))] = some ([.v (.lit (.int .i64 (add64 n 1)))] :: z) from rfl, Option.map_some, bind_some', lenE1, bind_some', List.length_map]
    have hlp := loop h z ts hc.1 hl N N 0 (add64 n 1) (Nat.zero_le _) (by omega)
    rw [show ((0 : Nat) : Int) = 0 from rfl] at hlp
    rw [hlp, bind_some', List.drop_zero]
    exact ih

theorem ends {c xs : List AV} (tr : Tr c xs) {r : Int} (hr : nodW xs 0 = some r) (h : Heap) : Ends Tryz.prog 236 [.agg c] h (.ret (.lit (.int .i64 r))) h := by
  obtain ⟨q0, q1, q2, q3, q4, q5, ks, rfl⟩ := Tr.explicit tr
  obtain ⟨n, hn⟩ : ∃ n : Nat, n = 9223372036854775809 := ⟨_, rfl⟩
  have h1 := kA q0 q1 q2 q3 q4 q5 ks h n
  have h2 := kA2 q0 q1 q2 q3 q4 q5 ks h n (iv 0)
  rw [hstore_app0, show hstore ([[.v (.lit (.int .i64 0))]] : Heap) 0 0 [.v (.lit (.int .i64 0))] = some [[.v (.lit (.int .i64 0))]] from rfl] at h2
  have h3 := kB q0 q1 q2 q3 q4 q5 ks (h ++ [[.v (.lit (.int .i64 0))]]) n h.length
  have hf := fold h [[q0, q1, q2, q3, q4, q5, .sl 7 ks].map .v] xs 0 r hr
  rw [← hn] at hf
  have e1 : (h ++ [[Cell.v (.lit (.int .i64 0))]]) ++ [[q0, q1, q2, q3, q4, q5, .sl 7 ks].map Cell.v] = h ++ ([.v (.lit (.int .i64 0))] :: [[q0, q1, q2, q3, q4, q5, .sl 7 ks].map Cell.v]) := by simp
  refine range_fn2 (E := E1) (call := call1) okE1 call1_ok (fn := Tryz.f236) Tryz.func236 (by kernel_rfl) (by rfl : Tryz.f236.body = some (.seq A (.seq A2 (.seq (.seq B (.block 0 (.rangeFunc (.tmp 8) #[9] (N.asg rng) (N.bod rng)))) rest)))) (H := HH) (n := n) (Nat.le_of_ble_eq_true rfl) [1, 2] h1 [1, 3] h2 [3, 8] h3 (L := [(3, hpS h.length)]) rfl (by decide) (by rfl) (fun i => ?_) rfl
    (W26.iter_ok tr ?_) (by rw [e1]; exact hf) ?_
  · rcases i with _ | _ | _ | _ | i <;> first | exact .inr rfl | exact .inl rfl
  · rw [List.getElem?_append_right (Nat.le_refl _), Nat.sub_self]
    rfl
  · refine (kC _ n h h.length _).trans ?_
    rw [hpart_app0, show hpart false 1 0 0 ([.v (.lit (.int .i64 r))] :: [[q0, q1, q2, q3, q4, q5, .sl 7 ks].map Cell.v]) = some (.lit (.int .i64 r)) from rfl, bind_some']
    exact trunc_app (H := HH) rfl (show Out.lt _ (.ret (.lit _)) from AV.lt.lit _)
end M
end HE
def p236 : (Nat → List AV → Heap → R) → List AV → Heap → R := fun _ args h => match args with
  | [.agg cs] => (HE.preC cs).bind fun xs => (HE.M.nodW xs 0).bind fun r => some (.ret (.lit (.int .i64 r)), h)
  | _ => none
theorem p236_ok (call : Nat → List AV → Heap → R) (args : List AV) (h : Heap) (out : Out) (h' : Heap) (e : p236 call args h = some (out, h')) : Ends Tryz.prog 236 args h out h' := by
  unfold p236 at e
  split at e
  · rw [Option.bind_eq_some_iff] at e; obtain ⟨xs, hx, e⟩ := e
    rw [Option.bind_eq_some_iff] at e; obtain ⟨r, hr, e⟩ := e
    have e := Option.some.inj e; cases e
    exact HE.M.ends (HE.preC_ok hx) hr _
  · cases e
end Go.Sh.T

namespace Go.Sh.T
open Go Go.Sh Go.Proofs
set_option maxRecDepth 100000

def cs0_132 (es : List (List AV)) (h : Heap) : St := { s := lkS [(0, .c (.v (.sl 1 es)))], h := h }
def cs1_132 (es : List (List AV)) (h : Heap) : St := { s := fun t => (ups (cs0_132 es h).s [(2, .c (.nil 1))] t).noPath, h := h }
def cs2_132 (es : List (List AV)) (h : Heap) : St := { s := ups (cs1_132 es h).s [(3, .c (.v (.sl 1 es)))], h := h, pb := fun _ => false }
def cs3_132 (es : List (List AV)) (h : Heap) (b : Bool) : St := { s := upd (cs2_132 es h).s 4 (.c (.v (.lit (.bool b)))), h := h, pb := fun _ => false }

noncomputable def clK_132 (h : Heap) : Ex → St → R := fun e st => match e with
  | .exit _ => none
  | _ => finish E0 { own := true } Tryz.f132 h st

theorem clT_132 (h : Heap) : evC E0 { own := true } 8 noCall 0 (match Tryz.f132.body with | some (.seq _ (.seq (.seq _ c) _)) => c | _ => .skip) 0 (cs3_132 [] h true) (fun e st' => match e with
      | .normal => evC E0 { own := true } 8 noCall 0 (match Tryz.f132.body with | some (.seq _ (.seq _ c)) => c | _ => .skip) 0 st' (clK_132 h) (fun _ _ => none)
      | .exit i => clK_132 h (.exit i) st'
      | .ret => clK_132 h .ret st') (fun _ _ => none) = some (.own 1 [], h) := by kernel_rfl

theorem clone132 (es : List (List AV)) (hm : es.length ≤ maxApp) (h : Heap) : Ends Tryz.prog 132 [.sl 1 es] h (.own 1 es) h := by
  refine ⟨⟨Tryz.f132, Tryz.func132, by kernel_rfl, rfl⟩, fun d G w argv hr hh hw => ?_⟩
  refine calls_of_wp Tryz.func132 rfl ?_
  refine (wpIn_wide (n := 0)).1 ?_
  have hal : argv.size = 1 := by have := hr.length; simpa using this.symm
  have hat : AtSt d 8 G w (cs0_132 es h) { tmps := argv ++ Array.replicate (Tryz.f132.ntmps - argv.size) undef, defers := [] } w := by
    refine ⟨G, ⟨fun i => ?_, fun u t off hu => ?_, hh, hw⟩, by simp [hal], Fr.refl d G w⟩
    · rcases lkS_spec [(0, .c (.v (.sl 1 es)))] i with e | e
      · show RepSlot _ _ _ _ (lkS _ _) _
        rw [e]; trivial
      · refine argSlots_spec [.sl 1 es] 0 argv.toList hr (fun j x hj => ?_) _ e
        have hj' : j < argv.size := by simpa using (List.getElem?_eq_some_iff.1 hj).1
        rw [Nat.zero_add, Array.getD_eq_getD_getElem?, Array.getElem?_append_left hj', ← Array.getElem?_toList, hj]; rfl
    · exfalso
      have hu : lkS [(0, .c (.v (.sl 1 es)))] u = .path t off := hu
      rcases lkS_spec [(0, .c (.v (.sl 1 es)))] u with e | e
      · rw [e] at hu; cases hu
      · rw [hu] at e; simp at e
  have k0 : evC E0 {} 8 noCall 0 (match Tryz.f132.body with | some (.seq a _) => a | _ => .skip) 0 (cs0_132 es h) kE kP = some (.inl (.normal, cs1_132 es h)) := by kernel_rfl
  refine wpIn_seq (seg_ok okE0 k0 hat rfl fun a1 w1 hat1 hd1 => ?_)
  have k1 : stepD E0 {} 8 noCall (match Tryz.f132.body with | some (.seq _ (.seq (.seq (.region _ ops _) _) _)) => ops | _ => #[]) 0 (match Tryz.f132.body with | some (.seq _ (.seq (.seq (.region _ ops _) _) _)) => ops.getD 0 default | _ => default) (cs1_132 es h) = some (.inl (cs2_132 es h)) := by kernel_rfl
  refine wpIn_seq (wpIn_seq (region_eqNil okE0 (o0 := (match Tryz.f132.body with | some (.seq _ (.seq (.seq (.region _ ops _) _) _)) => ops.getD 0 default | _ => default)) rfl rfl rfl (st1 := cs2_132 es h) k1 rfl rfl rfl Tryz.underlying36 (by decide) rfl (es := es) (n := 1) (by kernel_rfl) hat1 hd1 fun b hb a2 w2 hat2 hd2 => ?_))
  have fin : ∀ e a' w', QK [] d G w 8 (clK_132 h) (fun _ _ => none) (.own 1 es, h) e a' w' → bodyPost Tryz.prog Tryz.f132 (EndOk d G w (.own 1 es) h) e a' w' := by
    intro e a' w' hq
    obtain ⟨hd', hq⟩ := hq
    have key : ∀ {st' : St} {G' : Gh}, finish E0 { own := true } Tryz.f132 h st' = some (.own 1 es, h) → RepSt d G' w' st' a'.tmps → Fr d G w G' w' → a'.defers = [] ∧ ∃ v, (results Tryz.f132 a'.tmps).run Tryz.prog w' = .ok v w' ∧ EndOk d G w (.own 1 es) h (.returned v) w' := by
      intro st' G' h1 h2 h3
      obtain ⟨v, k1, ⟨G2, k2, k3, k4, k5⟩, k6⟩ := finish_ok okE0 hh h2 h3 h1
      exact ⟨hd', v, k1, G2, k2, k3, k4, k5⟩
    cases e with
    | normal => obtain ⟨st', G', h1, h2, h3, h4⟩ := hq; exact key h1 h2 h4
    | ret => obtain ⟨st', G', h1, h2, h3, h4⟩ := hq; exact key h1 h2 h4
    | exit i => obtain ⟨st', G', h1, _⟩ := hq; cases h1
    | panic ch => obtain ⟨x, v, G', h', _, h1, _⟩ := hq; cases h1
    | goto l => exact hq.elim
    | outgrown => exact hq.elim
  have hk : evC E0 { own := true } 8 noCall 0 (match Tryz.f132.body with | some (.seq _ (.seq (.seq _ c) _)) => c | _ => .skip) 0 (cs3_132 es h b) (fun e st' => match e with
      | .normal => evC E0 { own := true } 8 noCall 0 (match Tryz.f132.body with | some (.seq _ (.seq _ c)) => c | _ => .skip) 0 st' (clK_132 h) (fun _ _ => none)
      | .exit i => clK_132 h (.exit i) st'
      | .ret => clK_132 h .ret st') (fun _ _ => none) = some (.own 1 es, h) := by
    cases b with
    | true =>
      have he := hb rfl
      rw [he]
      exact clT_132 h
    | false =>
      have e : evC E0 { own := true } 8 noCall 0 (match Tryz.f132.body with | some (.seq _ (.seq (.seq _ c) _)) => c | _ => .skip) 0 (cs3_132 es h false) (fun e st' => match e with
        | .normal => evC E0 { own := true } 8 noCall 0 (match Tryz.f132.body with | some (.seq _ (.seq _ c)) => c | _ => .skip) 0 st' (clK_132 h) (fun _ _ => none)
        | .exit i => clK_132 h (.exit i) st'
        | .ret => clK_132 h .ret st') (fun _ _ => none) = cond (Nat.ble (([] : List (List AV)).length + es.length) maxApp) (some (.own 1 ([] ++ es), h)) none := by kernel_rfl
      rw [e]
      have : Nat.ble (([] : List (List AV)).length + es.length) maxApp = true := by rw [Nat.ble_eq]; simpa using hm
      rw [this, cond_true, List.nil_append]
  refine Code.wpIn_mono (fun e a' w' hq => ?_) (evC_ok (ro := none) (nn := 0) okE0 (noCall_ok _) _ 0 (cs3_132 es h b) _ a2 w2 hk hat2 hd2)
  obtain ⟨hd', hq⟩ := hq
  cases e with
  | normal =>
    obtain ⟨st', G', h1, h2, h3, h4⟩ := hq
    exact Code.wpIn_mono (fun e a'' w'' hq => fin e a'' w'' hq) (evC_ok (ro := none) (nn := 0) okE0 (noCall_ok _) _ 0 st' _ a' w' h1 ⟨G', h2, h3, h4⟩ hd')
  | ret => exact fin .ret a' w' ⟨hd', hq⟩
  | exit i => exact fin (.exit i) a' w' ⟨hd', hq⟩
  | panic ch => exact fin (.panic ch) a' w' ⟨hd', hq⟩
  | goto l => exact hq.elim
  | outgrown => exact hq.elim
def p132 : (Nat → List AV → Heap → R) → List AV → Heap → R := fun _ args h => match args with
  | [.sl 1 es] => bif Nat.ble es.length maxApp then some (.own 1 es, h) else none
  | _ => none
theorem p132_ok (call : Nat → List AV → Heap → R) (args : List AV) (h : Heap) (out : Out) (h' : Heap) (e : p132 call args h = some (out, h')) : Ends Tryz.prog 132 args h out h' := by
  unfold p132 at e
  split at e
  · obtain ⟨hs, e⟩ := condE e
    have e := Option.some.inj e; cases e
    exact clone132 _ (bleE hs) _
  · cases e
end Go.Sh.T

/- ty.Vars: texts gathered by a range over a function, sorted, compacted. -/
namespace Go.Sh.T
set_option maxRecDepth 1000000
set_option linter.unusedVariables false
set_option linter.unusedSimpArgs false
open Go Go.Sh Go.Proofs Go.Shelf

def laysSort_ren : Shelf.Ren := { f := fun x => match x with | 190 => 246 | 125 => 271 | 258 => 270 | 128 => 298 | 129 => 299 | 302 => 289 | 303 => 290 | 304 => 291 | 305 => 292 | 306 => 293 | 307 => 294 | 308 => 295 | 309 => 296 | 310 => 297 | 333 => 313 | 329 => 314 | 330 => 315 | 334 => 316 | 335 => 317 | 336 => 318 | 344 => 320 | n => n, t := fun x => match x with | 31 => 36 | 9 => 9 | 3 => 3 | 46 => 265 | 0 => 0 | 51 => 283 | 53 => 202 | 4 => 4 | 183 => 275 | 182 => 274 | 131 => 280 | 5 => 5 | 218 => 291 | 222 => 295 | 228 => 297 | 229 => 209 | n => n, g := fun n => n }
theorem laysSort : Lays.n190 Tryz.prog laysSort_ren :=
  { mixed := by kernel_rfl, f125 := Eq.trans Tryz.func271 (congrArg some (by kernel_rfl)), f128 := Eq.trans Tryz.func298 (congrArg some (by kernel_rfl)), f129 := Eq.trans Tryz.func299 (congrArg some (by kernel_rfl)), f190 := Eq.trans Tryz.func246 (congrArg some (by kernel_rfl)), f258 := Eq.trans Tryz.func270 (congrArg some (by kernel_rfl)), f302 := Eq.trans Tryz.func289 (congrArg some (by kernel_rfl)), f303 := Eq.trans Tryz.func290 (congrArg some (by kernel_rfl)), f304 := Eq.trans Tryz.func291 (congrArg some (by kernel_rfl)), f305 := Eq.trans Tryz.func292 (congrArg some (by kernel_rfl)), f306 := Eq.trans Tryz.func293 (congrArg some (by kernel_rfl)), f307 := Eq.trans Tryz.func294 (congrArg some (by kernel_rfl)), f308 := Eq.trans Tryz.func295 (congrArg some (by kernel_rfl)), f309 := Eq.trans Tryz.func296 (congrArg some (by kernel_rfl)), f310 := Eq.trans Tryz.func297 (congrArg some (by kernel_rfl)), f329 := Eq.trans Tryz.func314 (congrArg some (by kernel_rfl)), f330 := Eq.trans Tryz.func315 (congrArg some (by kernel_rfl)), f333 := Eq.trans Tryz.func313 (congrArg some (by kernel_rfl)), f334 := Eq.trans Tryz.func316 (congrArg some (by kernel_rfl)), f335 := Eq.trans Tryz.func317 (congrArg some (by kernel_rfl)), f336 := Eq.trans Tryz.func318 (congrArg some (by kernel_rfl)), f344 := Eq.trans Tryz.func320 (congrArg some (by kernel_rfl)), t0 := Tryz.underlying0, a0 := Tryz.isAgg0, z0 := Tryz.sizeOf0, v0 := Tryz.zeroValue0, t3 := Tryz.underlying3, a3 := Tryz.isAgg3, z3 := Tryz.sizeOf3, v3 := Tryz.zeroValue3, t4 := Tryz.underlying4, a4 := Tryz.isAgg4, z4 := Tryz.sizeOf4, v4 := Tryz.zeroValue4, t5 := Tryz.underlying5, a5 := Tryz.isAgg5, z5 := Tryz.sizeOf5, v5 := Tryz.zeroValue5, t9 := Tryz.underlying9, a9 := Tryz.isAgg9, z9 := Tryz.sizeOf9, v9 := Tryz.zeroValue9, t31 := Tryz.underlying36, a31 := Tryz.isAgg36, z31 := Tryz.sizeOf36, v31 := Tryz.zeroValue36, t46 := Tryz.underlying265, a46 := Tryz.isAgg265, z46 := Tryz.sizeOf265, v46 := Tryz.zeroValue265, t51 := Tryz.underlying283, a51 := Tryz.isAgg283, z51 := Tryz.sizeOf283, v51 := Tryz.zeroValue283, t53 := Tryz.underlying202, a53 := Tryz.isAgg202, z53 := Tryz.sizeOf202, v53 := Tryz.zeroValue202, t131 := Tryz.underlying280, a131 := Tryz.isAgg280, z131 := Tryz.sizeOf280, v131 := Tryz.zeroValue280, t182 := Tryz.underlying274, a182 := Tryz.isAgg274, z182 := Tryz.sizeOf274, v182 := Tryz.zeroValue274, t183 := Tryz.underlying275, a183 := Tryz.isAgg275, z183 := Tryz.sizeOf275, v183 := Tryz.zeroValue275, t218 := Tryz.underlying291, a218 := Tryz.isAgg291, z218 := Tryz.sizeOf291, v218 := Tryz.zeroValue291, t222 := Tryz.underlying295, a222 := Tryz.isAgg295, z222 := Tryz.sizeOf295, v222 := Tryz.zeroValue295, t228 := Tryz.underlying297, a228 := Tryz.isAgg297, z228 := Tryz.sizeOf297, v228 := Tryz.zeroValue297, t229 := Tryz.underlying209, a229 := Tryz.isAgg209, z229 := Tryz.sizeOf209, v229 := Tryz.zeroValue209 }
def laysCompact_ren : Shelf.Ren := { f := fun x => match x with | 194 => 247 | n => n, t := fun x => match x with | 31 => 36 | 9 => 9 | 3 => 3 | 4 => 4 | 0 => 0 | n => n, g := fun n => n }
theorem laysCompact : Lays.n194 Tryz.prog laysCompact_ren :=
  { mixed := by kernel_rfl, f194 := Eq.trans Tryz.func247 (congrArg some (by kernel_rfl)), t0 := Tryz.underlying0, a0 := Tryz.isAgg0, z0 := Tryz.sizeOf0, v0 := Tryz.zeroValue0, t3 := Tryz.underlying3, a3 := Tryz.isAgg3, z3 := Tryz.sizeOf3, v3 := Tryz.zeroValue3, t4 := Tryz.underlying4, a4 := Tryz.isAgg4, z4 := Tryz.sizeOf4, v4 := Tryz.zeroValue4, t9 := Tryz.underlying9, a9 := Tryz.isAgg9, z9 := Tryz.sizeOf9, v9 := Tryz.zeroValue9, t31 := Tryz.underlying36, a31 := Tryz.isAgg36, z31 := Tryz.sizeOf36, v31 := Tryz.zeroValue36 }
theorem sort37 {w : World} {x : Value} {l : List ByteArray} (h : OwnVal w x l) (hl : l.length < 4611686018427387904) :
    Calls Tryz.prog 246 #[x] w fun e w' => e = .returned (.tuple #[]) ∧ OwnVal w' x (sortL l) ∧ Turned w w' (blockV x) := sortC laysSort h hl
theorem compact38 {w : World} {x : Value} {l : List ByteArray} (h : OwnVal w x l) (hl : l.length < 4611686018427387904) :
    Calls Tryz.prog 247 #[x] w fun e w' => ∃ v, e = .returned v ∧ OwnVal w' v (compactL l) ∧ (∀ k, blockV v = some k → blockV x = some k) ∧ Turned w w' (blockV x) := compactC laysCompact h hl
theorem callable {f : Nat} {fn : Func} (h : Tryz.prog.funcs[f]? = some fn) (h1 : (fn.name == "runtime.NumGoroutine") = false) (h2 : fn.body.isSome = true) : Callable Tryz.prog f := ⟨fn, h, h1, h2⟩
theorem calb37 : Callable Tryz.prog 246 := callable Tryz.func246 (by kernel_rfl) rfl
theorem calb38 : Callable Tryz.prog 247 := callable Tryz.func247 (by kernel_rfl) rfl
namespace SET
def opsOf : Code → Array Oper
  | .region _ ops _ => ops
  | _ => #[]
theorem getT (a : Array Value) (t : Nat) (v : Value) (ht : t < a.size) : (a.setIfInBounds t v).getD t undef = v := by rw [getD_put _ _ _ _ ht, if_pos rfl]
theorem getN (a : Array Value) (t u : Nat) (v : Value) (ht : t < a.size) (hn : u ≠ t) : (a.setIfInBounds t v).getD u undef = a.getD u undef := by rw [getD_put _ _ _ _ ht, if_neg hn]
theorem eval_tmp (a : Act) (t : Nat) : a.eval (.tmp t) = a.tmps.getD t undef := rfl
theorem put_get (a : Act) (t : Nat) (v : Value) (ht : t < a.tmps.size) : (a.put (some t) v).tmps.getD t undef = v := getT a.tmps t v ht
theorem put_ne (a : Act) (t u : Nat) (v : Value) (ht : t < a.tmps.size) (hn : u ≠ t) : (a.put (some t) v).tmps.getD u undef = a.tmps.getD u undef := getN a.tmps t u v ht hn
theorem put_size (a : Act) (t : Nat) (v : Value) : (a.put (some t) v).tmps.size = a.tmps.size := by show (a.tmps.setIfInBounds t v).size = _; simp
/-- One call of a function of one slot. -/
theorem step_call1 {P : Program} {w : World} {a : Act} {ops : Array Oper} {i f t : Nat} {o : Oper} (hi : ops[i]? = some o) (hg : o.guard = none) (hc : ∃ c, o.op = .call c ∧ c.callee = .value (.func f) ∧ c.args = #[.tmp t]) (hcb : Callable P f) {x : Value} (hx : a.tmps.getD t undef = x)
    {R : Ending → World → Prop} (hcl : Calls P f #[x] w R) {K : Act → World → Prop} {Q : Exit → Act → World → Prop} (hR : ∀ e w', R e w' → ∃ v, e = .returned v ∧ K (a.put o.dst v) w') : wpOpIn (FF none) 0 P ops Q i K a w := by
  obtain ⟨c, h1, h2, h3⟩ := hc
  refine step_callX hi hg h1 h2 hcb (R := R) ?_ hR
  rw [h3, show (#[Operand.tmp t] : Array Operand).map a.eval = #[x] from by rw [← hx, List.map_toArray]; rfl]
  exact hcl
end SET

/-- Gathered texts, sorted and compacted. -/
theorem tail5 {a : Act} {w : World} {e1 e2 : Nat} {ops ops2 : Array Oper} {i0 i1 j0 j1 j2 : Oper} (h0 : ops[0]? = some i0) (h1 : ops[1]? = some i1) (hs : ops.size = 2) (h2 : ops2[0]? = some j0) (h3 : ops2[1]? = some j1) (h4 : ops2[2]? = some j2) (hs2 : ops2.size = 3)
    (g0 : i0.guard = none) (g1 : i1.guard = none) (g2 : j0.guard = none) (g3 : j1.guard = none) (g4 : j2.guard = none) {p t u v y r : Nat}
    (p0 : i0.op = .load 36 (.tmp p)) (d0 : i0.dst = some t) (p1 : ∃ c, i1.op = .call c ∧ c.callee = .value (.func 246) ∧ c.args = #[.tmp t]) (d1 : i1.dst = some u)
    (p2 : j0.op = .load 36 (.tmp p)) (d2 : j0.dst = some v) (p3 : ∃ c, j1.op = .call c ∧ c.callee = .value (.func 247) ∧ c.args = #[.tmp v]) (d3 : j1.dst = some y) (p4 : j2.op = .assign (.tmp y)) (d4 : j2.dst = some r)
    (ht : t < a.tmps.size) (hu : u < a.tmps.size) (hv : v < a.tmps.size) (hy : y < a.tmps.size) (hr : r < a.tmps.size) (npt : p ≠ t) (npu : p ≠ u)
    {bo : Nat} {arr : Array Value} {T : TypeId} {x : Value} (hp : a.tmps.getD p undef = .pointer (some ⟨bo, 0, none⟩)) (hb : w.heap[bo]? = some (.cells arr T (0, 0))) (hx : arr[0]? = some x) {l : List ByteArray} (hl0 : OwnVal w x l) (hl : l.length < 4611686018427387904) (hbx : ∀ b, blockV x = some b → b ≠ bo)
    {Q : Exit → Act → World → Prop} (hQ : ∀ a' w' z, a'.tmps.getD r undef = z → a'.defers = a.defers → OwnVal w' z (riseL l) → (∀ k, blockV z = some k → blockV x = some k) → Turned w w' (blockV x) → Q .ret a' w') : (Code.seq (.region e1 ops false) (.seq (.region e2 ops2 false) .ret)).wpIn (FF none) 0 Tryz.prog Q a w := by
  have tok : TyOk Tryz.prog 36 ti36 := tok36
  refine wpIn_seq (wpIn_region ?_)
  rw [hs, show List.range 2 = [0, 1] from rfl, wpOpsIn_cons]
  refine step_pureX h0 g0 (fun c hc => by rw [p0] at hc; cases hc) (run_load1 tok rfl p0 (b := bo) (off := 0) (by rw [SET.eval_tmp, hp]) hb hx) ?_
  rw [d0, wpOpsIn_cons]
  refine SET.step_call1 h1 g1 p1 calb37 (SET.put_get _ _ _ ht) (sort37 hl0 hl) ?_
  rintro e w1 ⟨rfl, k1, t1⟩
  refine ⟨_, rfl, ?_⟩
  rw [d1]
  obtain ⟨a1, ha1⟩ : ∃ a1, a1 = (a.put (some t) x).put (some u) (.tuple #[]) := ⟨_, rfl⟩
  have s1 : a1.tmps.size = a.tmps.size := by rw [ha1, SET.put_size, SET.put_size]
  have x1 : a1.tmps.getD p undef = .pointer (some ⟨bo, 0, none⟩) := by rw [ha1, SET.put_ne _ _ _ _ (by rw [SET.put_size]; exact hu) npu, SET.put_ne _ _ _ _ ht npt, hp]
  have dd1 : a1.defers = a.defers := by rw [ha1, put_defers, put_defers]
  rw [← ha1]
  show Code.wpIn _ _ _ _ _ _ _
  refine wpIn_seq (wpIn_region ?_)
  rw [hs2, show List.range 3 = [0, 1, 2] from rfl, wpOpsIn_cons]
  have hb1 : w1.heap[bo]? = some (.cells arr T (0, 0)) := (t1.same bo (lt_of_heap hb) (fun e => hbx bo e rfl)).trans hb
  refine step_pureX h2 g2 (fun c hc => by rw [p2] at hc; cases hc) (run_load1 tok rfl p2 (b := bo) (off := 0) (by rw [SET.eval_tmp, x1]) hb1 hx) ?_
  rw [d2, wpOpsIn_cons]
  refine SET.step_call1 h3 g3 p3 calb38 (SET.put_get _ _ _ (by rw [s1]; exact hv)) (compact38 k1 (by rw [sortL_len]; exact hl)) ?_
  rintro e w2 ⟨z, rfl, k2, k3, t2⟩
  refine ⟨z, rfl, ?_⟩
  rw [d3, wpOpsIn_cons]
  refine step_pureX (v := z) h4 g4 (fun c hc => by rw [p4] at hc; cases hc) (by rw [run_assign p4, SET.eval_tmp, SET.put_get _ _ _ (by rw [SET.put_size, s1]; exact hy)]) ?_
  rw [d4]
  rw [compact_sort] at k2
  show Code.wpIn _ _ _ _ _ _ _
  refine wpIn_ret ?_
  exact hQ _ w2 z (SET.put_get _ _ _ (by rw [SET.put_size, SET.put_size, s1]; exact hr)) (by rw [put_defers, put_defers, put_defers, dd1]) k2 k3 (t1.trans t2)
theorem res_tmp {fn : Func} {r : Nat} (h : fn.results.toList = [.tmp r]) {tmps : Array Value} {w : World} {v : Value} (hv : tmps.getD r undef = v) : (results fn tmps).run Tryz.prog w = .ok v w := by
  have hrun : (fn.results.toList.mapM (rdOne E0.P tmps)).run E0.P w = .ok [v] w := by
    rw [h]
    simp [rdOne, hv]
  exact results_run (E := E0) hrun
theorem own_put {w : World} {D : Nat} {m : List Deferred} {y : Obj} (hD : w.heap[D]? = some (.deferred (some m))) {v : Value} {l : List ByteArray} (h : OwnVal w v l) : OwnVal (w.putObj D y) v l := by
  rcases h with h | ⟨b, cap, arr, T, h1, h2, h3⟩
  · exact .inl h
  · refine .inr ⟨b, cap, arr, T, h1, ?_, h3⟩
    have : b ≠ D := fun e => by rw [e, hD] at h2; cases h2
    exact (put_other this).trans h2

namespace H34
namespace V
open W34 (Tr TrL pL pR)
noncomputable def body : Code := Tryz.f193.body.getD .skip
noncomputable def A := pL body
noncomputable def A2 := pL (pR body)
noncomputable def B := pL (pL (pR (pR body)))
noncomputable def rng := pL (pR (pL (pR (pR body))))
noncomputable def rest := pR (pR (pR body))
abbrev HH : FHint := { hb := [3], hp := [3], tr := [11], base := [(8, 4), (12, 4)] }
section
variable (q0 q1 q2 q3 q4 : AV) (h : Heap)
theorem kA : evC E0 HH Tryz.f193.ntmps call0 0 A 0 { s := lkS (argSlots 0 [.agg [q0, q1, q2, q3, q4]]), h := h } (kL [1]) kN = some ([(1, .loc ([q0, q1, q2, q3, q4].map .v))], h) := by kernel_rfl
theorem kA2 : evC E0 HH Tryz.f193.ntmps call0 0 A2 0 { s := lkS [(1, .loc ([q0, q1, q2, q3, q4].map .v))], h := h } (kL [1, 3]) kN = some ([(1, .loc ([q0, q1, q2, q3, q4].map .v)), (3, hpS h.length)], h ++ ([[.own 1 []]] : Heap)) := by kernel_rfl
theorem kB (i : Nat) : evC E0 HH Tryz.f193.ntmps call0 0 B 0 { s := lkS [(1, .loc ([q0, q1, q2, q3, q4].map .v)), (3, hpS i)], h := h } (kL [3, 6]) kN = some ([(3, hpS i), (6, fnC h.length)], h ++ [[q0, q1, q2, q3, q4].map .v]) := by kernel_rfl
def addN (s : ByteArray) (i : Nat) (h : Heap) : Option (Option Code × Heap) :=
  (htake h i 0).bind fun q => cond (Nat.beq q.1.1 1 && Nat.ble (q.1.2.length + ([[.lit (.string s)]] : List (List AV)).length) maxApp) ((hstore q.2 i 0 [.own 1 (q.1.2 ++ [[.lit (.string s)]])]).bind fun h2 => some (none, h2)) none
theorem kR (i : Nat) (k : Int) (s : ByteArray) : roundE E0 HH Tryz.f193.ntmps call0 0 (lkS [(3, hpS i)]) 7 (asg rng) (bod rng) (.agg [.lit (.int .i64 k), q1, .lit (.string s), q3, q4]) h =
    cond (k == 6) (addN s i h) (some (none, h)) := by kernel_rfl
end
/-- The variables in a type, one by one. -/
def names (t : Ty) : List (List AV) := (t.pre.filter fun x => x.k == 6).map fun x => [.lit (.string x.name)]
theorem add_own (h : Heap) (z : List (List Cell)) (acc : List (List AV)) (s : ByteArray) (hm : acc.length + 1 ≤ maxApp) : addN s h.length (h ++ ([.own 1 acc] :: z)) = some (none, h ++ ([.own 1 (acc ++ [[.lit (.string s)]])] :: z)) := by
  unfold addN
  have e1 : htake (h ++ ([.own 1 acc] :: z)) h.length 0 = some ((1, acc), h ++ ([.v (.sl 1 acc)] :: z)) := by
    unfold htake
    rw [List.getElem?_append_right (Nat.le_refl _), Nat.sub_self]
    simp
  rw [e1, bind_some', hstore_app0, show hstore ([.v (.sl 1 acc)] :: z) 0 0 [.own 1 (acc ++ [[.lit (.string s)]])] = some ([.own 1 (acc ++ [[.lit (.string s)]])] :: z) from rfl, Option.map_some, bind_some']
  rw [show (Nat.beq 1 1 && Nat.ble (acc.length + ([[(.lit (.string s) : AV)]] : List (List AV)).length) maxApp) = true from by rw [show Nat.beq 1 1 = true from rfl, Bool.true_and, Nat.ble_eq]; exact hm, condT]
theorem fold (h : Heap) (z : List (List Cell)) : ∀ (l : List Ty) (acc : List (List AV)), acc.length + ((l.filter fun x => x.k == 6).map fun x => [(AV.lit (.string x.name))]).length ≤ maxApp → foldR (roundE E0 HH Tryz.f193.ntmps call0 0 (lkS [(3, hpS h.length)]) 7 (asg rng) (bod rng)) (l.map fun x => .agg x.cells) (h ++ ([.own 1 acc] :: z)) = some (none, h ++ ([.own 1 (acc ++ (l.filter fun x => x.k == 6).map fun x => [.lit (.string x.name)])] :: z))
  | [], acc, _ => by rw [show (acc ++ (([] : List Ty).filter fun x => x.k == 6).map fun x => [(AV.lit (.string x.name))]) = acc from List.append_nil acc]; rfl
  | t :: l, acc, hm => by
    rw [List.map_cons, foldR, Ty.cells_eq, kR]
    cases hk : t.k == 6 with
    | false =>
      rw [List.filter_cons, hk] at hm ⊢
      rw [condF]
      exact fold h z l acc hm
    | true =>
      rw [List.filter_cons, hk, if_pos rfl, List.map_cons] at hm ⊢
      rw [List.length_cons] at hm
      rw [condT, add_own h z acc t.name (by omega)]
      have ih := fold h z l (acc ++ [[.lit (.string t.name)]]) (by rw [List.length_append, List.length_cons, List.length_nil]; omega)
      rw [List.append_assoc] at ih
      exact ih

def nameL (t : Ty) : List ByteArray := (t.pre.filter fun x => x.k == 6).map Ty.name
theorem names_eq (t : Ty) : names t = (nameL t).map fun s => [AV.lit (.string s)] := by unfold names nameL; rw [List.map_map]; rfl
theorem strs_lt (m : List ByteArray) : AV.lt 0 (.sl 1 (m.map strC)) := ltA_ok (by
  rw [ltA]
  induction m with
  | nil => rfl
  | cons x m ih => rw [List.map_cons, ltE, ih]; rfl)
theorem ends (t : Ty) (ok : t.small = true) (hm : (nameL t).length ≤ maxApp) (hl : ltL 0 t.cells = true) (hh : Heap) : Ends Tryz.prog 193 [.agg t.cells] hh (.ret (.sl 1 ((riseL (nameL t)).map strC))) hh := by
  refine lone (callable Tryz.func193 (by kernel_rfl) rfl) (fun a ha => by rw [List.mem_singleton.1 ha]; exact .agg (ltL_ok hl)) (strs_lt _) (fun w argv hgl hr => ?_) hh
  have h1 := kA (.lit (.int .i64 t.k)) (.lit (.int .i64 t.n)) (.lit (.string t.name)) (.sl 1 (t.labels.map strC)) (.sl 5 (t.args.map Ty.cells)) []
  have h2 := kA2 (.lit (.int .i64 t.k)) (.lit (.int .i64 t.n)) (.lit (.string t.name)) (.sl 1 (t.labels.map strC)) (.sl 5 (t.args.map Ty.cells)) []
  have h3 := kB (.lit (.int .i64 t.k)) (.lit (.int .i64 t.n)) (.lit (.string t.name)) (.sl 1 (t.labels.map strC)) (.sl 5 (t.args.map Ty.cells)) ([] ++ [[.own 1 []]]) 0
  rw [← Ty.cells_eq] at h1 h2 h3
  have hf := fold [] [t.cells.map .v] t.pre [] (by
    have : ((t.pre.filter fun x => x.k == 6).map fun x => [(AV.lit (.string x.name))]).length = (nameL t).length := by unfold nameL; rw [List.length_map, List.length_map]
    rw [List.length_nil, Nat.zero_add, this]; exact hm)
  rw [List.nil_append, show ((t.pre.filter fun x => x.k == 6).map fun x => [(AV.lit (.string x.name))]) = (nameL t).map (fun s => [AV.lit (.string s)]) from names_eq t] at hf
  refine range_fnT (E := E0) (call := call0) okE0 call0_ok (fn := Tryz.f193) Tryz.func193 (by rfl : Tryz.f193.body = some (.seq A (.seq A2 (.seq (.seq B (.block 0 (.rangeFunc (.tmp 6) #[7] (asg rng) (bod rng)))) rest)))) (H := HH) (n := 0) (Nat.le_of_ble_eq_true rfl) [1] h1 [1, 3] h2 [3, 6] h3 (L := [(3, hpS 0)]) rfl (by decide) (by rfl) (fun i => ?_) rfl
    (W34.iter_ok (tr t ok) ?_) (d := 0) hf hr (heap_all w hgl) (within_all w) fun D G3 w3 a3 hD hge r3 n3 f3 hd3 => ?_
  · rcases i with _ | _ | _ | _ | i <;> first | exact .inr rfl | exact .inl rfl
  · show some ((t.cells.map Cell.v).map Cell.get) = _
    rw [List.map_map, show Cell.get ∘ Cell.v = id from rfl, List.map_id]
  · rw [List.nil_append] at r3
    obtain ⟨bo, arr, T, x, k1, k2, k3, k4, k5, k6⟩ := own_out f3 r3 (t := 3) (i := 0) rfl (l := nameL t) rfl
    have hb : rest = .seq (pL rest) (.seq (pL (pR rest)) .ret) := by rfl
    rw [hb]
    have hml : (nameL t).length < 4611686018427387904 := Nat.lt_of_le_of_lt hm (by decide)
    change (Code.seq (.region _ (SET.opsOf (pL rest)) false) (.seq (.region _ (SET.opsOf (pL (pR rest))) false) .ret)).wpIn _ _ _ _ _ _
    refine tail5 (i0 := (SET.opsOf (pL rest)).getD 0 default) (i1 := (SET.opsOf (pL rest)).getD 1 default) (j0 := (SET.opsOf (pL (pR rest))).getD 0 default) (j1 := (SET.opsOf (pL (pR rest))).getD 1 default) (j2 := (SET.opsOf (pL (pR rest))).getD 2 default) (p := 3) (t := 16) (u := 17) (v := 18) (y := 19) (r := 2)
      rfl rfl rfl rfl rfl rfl rfl rfl rfl rfl rfl rfl rfl rfl ⟨_, rfl, rfl, rfl⟩ rfl rfl rfl ⟨_, rfl, rfl, rfl⟩ rfl rfl rfl (by rw [n3]; decide) (by rw [n3]; decide) (by rw [n3]; decide) (by rw [n3]; decide) (by rw [n3]; decide) (by decide) (by decide) k1 k3 k4 k5 hml (fun b hb => (k6 b hb).2) ?_
    intro a' w' v j1 j2 j3 j4 j5
    have hD' : w'.heap[D]? = some (.deferred (some [])) := by
      refine (j5.same D (lt_of_heap hD) fun e => ?_).trans hD
      rcases k5 with ⟨rfl, _⟩ | ⟨b, cap, arr2, T2, rfl, m1, _⟩
      · cases e
      · cases e; rw [hD] at m1; cases m1
    show LeavesInM _ _ _ _ a'.tmps _ a'.defers _ _
    rw [j2, hd3]
    refine LeavesInM.of_mark hD' (res_tmp (r := 2) rfl j1) ?_
    have hblk : ∀ b, blockV v = some b → w.heap.size ≤ b := fun b hb => (k6 b (j4 b hb)).1
    obtain ⟨z, hz⟩ := lone_end f3 j5 (fun b hb => (k6 b hb).1) j3 hblk
    have hput : Turned w' (w'.putObj D (.deferred none)) (some D) := ⟨rfl, rfl, rfl, by simp, fun k hk hp => put_other (fun e => hp (by rw [e]))⟩
    have t2 : LoneEnd w (.sl 1 ((riseL (nameL t)).map fun s => [AV.lit (.string s)])) (.returned v) (w'.putObj D (.deferred none)) := by
      have f3' : w'.os = w.os ∧ w'.tape = w.tape ∧ w'.output = w.output ∧ w.heap.size ≤ w'.heap.size ∧ ∀ b, b < w.heap.size → w'.heap[b]? = w.heap[b]? := ⟨hz.2.1, hz.2.2.1, hz.2.2.2.1, hz.2.2.2.2.1, hz.2.2.2.2.2.1⟩
      exact lone_end2 f3'.1 f3'.2.1 f3'.2.2.1 f3'.2.2.2.1 f3'.2.2.2.2 hput (fun b hb => by cases hb; exact hge) (own_put hD' j3) hblk
    exact t2
end V
end H34
def p193 : (Nat → List AV → Heap → R) → List AV → Heap → R := fun _ args h => match args with
  | [.agg cs] => (decC cs).bind fun t => bif t.small && (ltL 0 cs && Nat.ble (H34.V.nameL t).length maxApp) then some (.ret (.sl 1 ((riseL (H34.V.nameL t)).map strC)), h) else none
  | _ => none
theorem p193_ok (call : Nat → List AV → Heap → R) (args : List AV) (h : Heap) (out : Out) (h' : Heap) (e : p193 call args h = some (out, h')) : Ends Tryz.prog 193 args h out h' := by
  unfold p193 at e
  split at e
  · rw [Option.bind_eq_some_iff] at e; obtain ⟨t, ht, e⟩ := e
    obtain ⟨hs, e⟩ := condE e
    rw [Bool.and_eq_true, Bool.and_eq_true] at hs
    have e := Option.some.inj e; cases e
    have hc := decC_ok ht
    rw [hc] at hs ⊢
    exact H34.V.ends t hs.1 (Nat.le_of_ble_eq_true hs.2.2) hs.2.1 _
  · cases e
end Go.Sh.T

/- exp.distinct: names told once, by a map. -/
namespace Go.Sh.T
set_option maxRecDepth 100000
set_option linter.unusedVariables false
set_option linter.unusedSimpArgs false
open Go Go.Sh Go.Proofs

namespace DI
open W26 (pL pR)
def opsOf : Code → Array Oper
  | .region _ ops _ => ops
  | _ => #[]
noncomputable def body : Code := Tryz.f187.body.getD .skip
noncomputable def c0 := pL body
noncomputable def c1 := pL (pR body)
noncomputable def c2 := pL (pL (pR (pR body)))
noncomputable def blk := pR (pL (pR (pR body)))
noncomputable def lp := pL (pL blk)
noncomputable def c3 := pL lp
noncomputable def cR := pR (pR lp)
noncomputable def b1 := pL (pL cR)
noncomputable def c4 := pL b1
noncomputable def c5 := pL (pL (pR b1))
noncomputable def cc := pR (pL (pR b1))
noncomputable def c6 := pL (pL cc)
noncomputable def c7 := pR (pR b1)
noncomputable def c8 := pR cR
noncomputable def c9 := pL (pR (pR (pR body)))
noncomputable def o1 (i : Nat) : Oper := (opsOf c1).getD i default
noncomputable def o5 (i : Nat) : Oper := (opsOf c5).getD i default
noncomputable def o7 (i : Nat) : Oper := (opsOf c7).getD i default
abbrev iv (n : Int) : Slot := .c (.v (.lit (.int .i64 n)))
abbrev bv (b : Bool) : Slot := .c (.v (.lit (.bool b)))
abbrev sv (s : ByteArray) : Slot := .c (.v (.lit (.string s)))
abbrev mv (q : Nat) : Slot := .c (.v (.lit (.map (some q))))
abbrev psv (es : List (List AV)) : Slot := .c (.v (.sl 6 es))
abbrev fv (f : Nat) : Slot := .c (.v (.fn f [] []))
abbrev HH : FHint := { base := [(18, 9), (24, 9), (30, 9)] }
abbrev LL (es : List (List AV)) (m : Int) (f q : Nat) (n i : Int) : List (Nat × Slot) := [(0, psv es), (1, iv m), (2, fv f), (7, mv q), (11, psv es), (12, iv n), (13, iv i)]
section
variable (es : List (List AV)) (m : Int) (f q : Nat) (n i : Int) (h : Heap) (F : Nat → List AV → Heap → R)
theorem k0 : evC E0 HH Tryz.f187.ntmps F 0 c0 0 { s := lkS (argSlots 0 [.sl 6 es, .lit (.int .i64 m), .fn f [] []]), h := h } (kL [0, 1, 2]) kN = some ([(0, psv es), (1, iv m), (2, fv f)], h) := by kernel_rfl
theorem k1 : opsK E0 HH Tryz.f187.ntmps F (opsOf c1) [(1, o1 1)] { s := upd (lkS [(0, psv es), (1, iv m), (2, fv f)]) 10 (mv q), h := h } (kLs [0, 1, 2, 7]) kN = some ([(0, psv es), (1, iv m), (2, fv f), (7, mv q)], h) := by kernel_rfl
theorem k2 : evC E0 HH Tryz.f187.ntmps F 0 c2 0 { s := lkS [(0, psv es), (1, iv m), (2, fv f), (7, mv q)], h := h } (kL [0, 1, 2, 7, 11, 12, 13]) kN = (lenA E0 47 (.sl 6 es)).bind fun n => some (LL es m f q n 0, h) := by kernel_rfl
theorem k3 : evC E0 HH Tryz.f187.ntmps F 0 c3 0 { s := lkS (LL es m f q n i), h := h } (kL [0, 1, 2, 7, 11, 12, 13, 14]) kN = some (LL es m f q n i ++ [(14, bv (decide (i < n)))], h) := by kernel_rfl
theorem k4 (x : Slot) : evC E0 HH Tryz.f187.ntmps F 0 c4 0 { s := lkS (LL es m f q n i ++ [(14, x)]), h := h } (kL [0, 1, 2, 7, 11, 12, 13, 9]) kN =
    (indexA 6 (.sl 6 es) (.lit (.int .i64 i))).bind fun e => (partA true 6 0 e).bind fun v => (aggOf v).bind fun l => cond (Nat.beq l.length 6) (some (LL es m f q n i ++ [(9, .loc [.v (l.getD 0 .dead), .v (l.getD 1 .dead), .v (l.getD 2 .dead), .v (l.getD 3 .dead), .v (l.getD 4 .dead), .v (l.getD 5 .dead)])], h)) none := by kernel_rfl
variable (s : ByteArray) (q1 q2 q3 q4 q5 : AV)
abbrev L9 : List (Nat × Slot) := LL es m f q n i ++ [(9, .loc ([.lit (.string s), q1, q2, q3, q4, q5].map .v))]
theorem k5 : opsK E0 HH Tryz.f187.ntmps F (opsOf c5) [(0, o5 0), (1, o5 1), (2, o5 2)] { s := lkS (L9 es m f q n i s q1 q2 q3 q4 q5), h := h } (kLs [0, 1, 2, 7, 11, 12, 13, 9, 17, 19]) kN = some (L9 es m f q n i s q1 q2 q3 q4 q5 ++ [(17, mv q), (19, sv s)], h) := by kernel_rfl
abbrev L19 (c : Int) : Nat → Slot := upd (lkS (L9 es m f q n i s q1 q2 q3 q4 q5 ++ [(17, mv q), (19, sv s)])) 20 (iv c)
theorem k5t : opsK E0 HH Tryz.f187.ntmps F (opsOf c5) [(4, o5 4), (5, o5 5), (6, o5 6), (7, o5 7), (8, o5 8), (9, o5 9), (10, o5 10), (11, o5 11)] { s := L19 es m f q n i s q1 q2 q3 q4 q5 1, h := h } (kLs [0, 1, 2, 7, 11, 12, 13, 9, 28]) kN = some (L9 es m f q n i s q1 q2 q3 q4 q5 ++ [(28, bv true)], h) := by kernel_rfl
theorem k5f : opsK E0 HH Tryz.f187.ntmps F (opsOf c5) [(4, o5 4), (5, o5 5), (6, o5 6), (7, o5 7), (8, o5 8), (9, o5 9), (10, o5 10), (11, o5 11)] { s := L19 es m f q n i s q1 q2 q3 q4 q5 0, h := h } (kLs [0, 1, 2, 7, 11, 12, 13, 9, 28]) kN =
    onOut (applyV F (.fn f [] []) [.lit (.string s)] h) (fun a h' => (unAV .not a).bind fun r => some (L9 es m f q n i s q1 q2 q3 q4 q5 ++ [(28, .c (.v r))], h')) (fun _ _ _ => none) (fun _ _ => none) := by kernel_rfl
theorem k6 (x : Slot) : evC E0 HH Tryz.f187.ntmps F 0 c6 0 { s := lkS (L9 es m f q n i s q1 q2 q3 q4 q5 ++ [(28, x)]), h := h } (kL [6]) kN = some ([(6, bv false)], h) := by kernel_rfl
theorem k7 (x : Slot) : opsK E0 HH Tryz.f187.ntmps F (opsOf c7) [(0, o7 0), (1, o7 1), (2, o7 2)] { s := lkS (L9 es m f q n i s q1 q2 q3 q4 q5 ++ [(28, x)]), h := h } (kLs [0, 1, 2, 7, 11, 12, 13, 29, 31]) kN = some (LL es m f q n i ++ [(29, mv q), (31, sv s)], h) := by kernel_rfl
theorem k7b (c : Int) : opsK E0 HH Tryz.f187.ntmps F (opsOf c7) [(4, o7 4)] { s := upd (lkS (LL es m f q n i ++ [(29, mv q), (31, sv s)])) 32 (iv c), h := h } (kLs [0, 1, 2, 7, 11, 12, 13, 29, 31, 33]) kN = some (LL es m f q n i ++ [(29, mv q), (31, sv s), (33, iv (IntKind.i64.wrap (c + 1)))], h) := by kernel_rfl
theorem k8 (x : Slot) : evC E0 HH Tryz.f187.ntmps F 0 c8 0 { s := lkS (LL es m f q n i ++ [(29, mv q), (31, sv s), (33, x)]), h := h } (kL [0, 1, 2, 7, 11, 12, 13]) kN = some (LL es m f q n (IntKind.i64.wrap (i + 1)), h) := by kernel_rfl
theorem k9 : evC E0 HH Tryz.f187.ntmps F 0 c9 0 { s := lkS (LL es m f q n i), h := h } (kL [6]) kN = (lenA E0 47 (.sl 6 es)).bind fun n => some ([(6, bv (decide (n ≤ m)))], h) := by kernel_rfl
theorem kF (h0 : Heap) (b : Bool) : finish E0 HH Tryz.f187 h0 { s := lkS [(6, bv b)], h := h } = some (.ret (.lit (.bool b)), h) := by kernel_rfl
end
end DI
end Go.Sh.T

/- exp.distinct as one step. -/
namespace Go.Sh.T
set_option maxRecDepth 100000
set_option linter.unusedVariables false
set_option linter.unusedSimpArgs false
open Go Go.Sh Go.Proofs

namespace DI
open W26 (pL pR)
open P176 (slotA)
def seenB (seen : List ByteArray) (s : ByteArray) : Bool := seen.any fun x => x.data.toList == s.data.toList
def nameOf : List AV → Option ByteArray
  | [.lit (.string s), _, _, _, _, _] => some s
  | _ => none
def boolR : R → Option (Bool × Heap)
  | some (.ret (.lit (.bool b)), h) => some (b, h)
  | _ => none
def distW (call : Nat → List AV → Heap → R) (f : Nat) : List (List AV) → List ByteArray → Heap → Option (Bool × Heap)
  | [], _, h => some (true, h)
  | e :: r, seen, h => (nameOf e).bind fun s => bif Nat.ble s.size maxLen then (bif seenB seen s then some (false, h) else (boolR (call f [.lit (.string s)] h)).bind fun p => bif p.1 then distW call f r (s :: seen) p.2 else some (false, p.2)) else none
theorem nameOf_eq {e : List AV} {s : ByteArray} (h : nameOf e = some s) : ∃ q1 q2 q3 q4 q5, e = [.lit (.string s), q1, q2, q3, q4, q5] := by
  unfold nameOf at h
  split at h
  · cases h; exact ⟨_, _, _, _, _, rfl⟩
  · cases h
theorem boolR_eq {r : R} {p : Bool × Heap} (h : boolR r = some p) : r = some (.ret (.lit (.bool p.1)), p.2) := by
  unfold boolR at h
  split at h
  · cases h; rfl
  · cases h

abbrev keyL (s : ByteArray) : Lit := .string s.data.toList
abbrev numD (c : Int) : DataW Unit := .lit (.int .i64 c)
/-- What the map tells. -/
def Told (X : DataW Unit) (seen : List ByteArray) : Prop := Maps.IsMap X ∧ ∀ s, X.atKey (keyL s) (numD 0) = numD (bif seenB seen s then 1 else 0)
theorem told_nil : Told (.map []) [] := ⟨Maps.isMap_empty, fun s => rfl⟩
theorem told_put {X : DataW Unit} {seen : List ByteArray} (t : Told X seen) (s : ByteArray) : Told (X.put (keyL s) (numD 1)) (s :: seen) := by
  refine ⟨t.1.put _ _, fun s' => ?_⟩
  unfold seenB
  rw [List.any_cons]
  cases e : s.data.toList == s'.data.toList with
  | true =>
    have e := eq_of_beq e
    rw [show keyL s' = keyL s from by show Lit.string _ = _; rw [← e], Maps.atKey_put_same t.1 (show WideAt.IsKeyLit (keyL s) from trivial)]; rfl
  | false =>
    have hne : keyL s' ≠ keyL s := fun h => by
      have := Lit.string.inj h
      rw [this] at e; simp at e
    rw [Maps.atKey_put_other hne, t.2 s']; rfl

theorem lenA47 (es : List (List AV)) : lenA E0 47 (.sl 6 es) = some (es.length : Int) := (Eq.refl _).trans (by kernel_rfl)
theorem applyS (F : Nat → List AV → Heap → R) (f : Nat) (x : AV) (h : Heap) : applyV F (.fn f [] []) [x] h = F f [x] h := (Eq.refl _).trans rfl
theorem indexA_at (n : Nat) (es : List (List AV)) {i : Nat} (h : i < es.length) : indexA n (.sl n es) (.lit (.int .i64 (i : Int))) = some es[i] := by
  have := indexA_map es (fun x => x) n i h
  rwa [List.map_id'] at this

section
variable {F : Nat → List AV → Heap → R} {d : Nat} {G0 : Gh} {w0 : World} {es : List (List AV)} {m : Int} {f q : Nat}
abbrev LM (q : Nat) (k : Nat) (X : DataW Unit) (d : Nat) (G0 : Gh) (w0 : World) (l : List (Nat × Slot)) (h : Heap) (a : Act) (w : World) : Prop := AtM Tryz.prog 9 3 q k X d Tryz.f187.ntmps G0 w0 { s := lkS l, h := h } a w

theorem loop_ok (hs : SoundC Tryz.prog F) (hq : w0.heap.size ≤ q) (hle : es.length ≤ maxApp) {b : Bool} {hO : Heap} {Q : Exit → Act → World → Prop}
    (hex : b = true → ∀ a w x, AtSt d Tryz.f187.ntmps G0 w0 { s := lkS (LL es m f q es.length es.length ++ [(14, x)]), h := hO } a w → a.defers = [] → Q (.exit 0) a w)
    (hret : b = false → ∀ a w, AtSt d Tryz.f187.ntmps G0 w0 { s := lkS [(6, bv false)], h := hO } a w → a.defers = [] → Q .ret a w) :
    ∀ (M i : Nat) (seen : List ByteArray) (X : DataW Unit) (h : Heap) (a : Act) (w : World), es.length < M + i → i ≤ es.length → distW F f (es.drop i) seen h = some (b, hO) → Told X seen →
      LM q i X d G0 w0 (LL es m f q es.length i) h a w → a.defers = [] → Code.roundsIn (FF none) 0 Tryz.prog lp Q M a w
  | 0, i, seen, X, h, a, w, h1, h2, _, _, _, _ => by omega
  | M + 1, i, seen, X, h, a, w, h1, h2, hd, ht, hat, hdf => by
    rw [roundsIn_succ]
    refine wpIn_seq (seg_map (H := HH) (n := 0) (bi := 0) okE0 hs [0, 1, 2, 7, 11, 12, 13, 14] (k3 es m f q es.length i h F) hat hdf fun a1 w1 hat1 hd1 => ?_)
    have hb : a1.tmps.getD 14 undef = .bool (decide ((i : Int) < (es.length : Int))) := by
      obtain ⟨G, r, _⟩ := hat1
      exact (slotA r (i := 14) rfl).litE
    by_cases hi : i < es.length
    · have e1 : decide ((i : Int) < (es.length : Int)) = true := by simpa using hi
      rw [e1] at hb
      rw [List.drop_eq_getElem_cons hi, distW, Option.bind_eq_some_iff] at hd
      obtain ⟨s, hs1, hd⟩ := hd
      obtain ⟨hsz, hd⟩ := condE hd
      have hsz := Nat.le_of_ble_eq_true hsz
      obtain ⟨q1, q2, q3, q4, q5, he⟩ := nameOf_eq hs1
      refine wpIn_seq (wpIn_cond_true hb (wpIn_skip ?_))
      refine wpIn_seq (wpIn_block ?_)
      have hk4 := k4 es m f q es.length i h F (bv (decide ((i : Int) < (es.length : Int))))
      rw [indexA_at 6 es hi, bind_some', he, partA_full (by rfl), bind_some'] at hk4
      refine wpIn_seq (seg_map (H := HH) (n := 0) (bi := 0) okE0 hs [0, 1, 2, 7, 11, 12, 13, 9] (hk4.trans (by rfl : _ = some (L9 es m f q es.length i s q1 q2 q3 q4 q5, h))) hat1 hd1 fun a2 w2 hat2 hd2 => ?_)
      refine wpIn_seq (wpIn_seq (wpIn_region ?_))
      change wpOpsIn _ _ _ (opsOf c5) _ ([(0, o5 0), (1, o5 1), (2, o5 2)].map Prod.fst ++ [3, 4, 5, 6, 7, 8, 9, 10, 11]) _ _
      refine ops_map (H := HH) okE0 hs [0, 1, 2, 7, 11, 12, 13, 9, 17, 19] _ (k5 es m f q es.length i h F s q1 q2 q3 q4 q5) ?_ hat2 hd2 fun a3 w3 hat3 hd3 => ?_
      · intro p hp
        simp only [List.mem_cons, List.not_mem_nil, or_false] at hp
        rcases hp with rfl | rfl | rfl <;> rfl
      have h17 : a3.eval (.tmp 17) = .map (some q) := by
        obtain ⟨G, r, _⟩ := hat3
        exact (slotA r (i := 17) rfl).litE
      have h19 : a3.eval (.tmp 19) = .string s := by
        obtain ⟨G, r, _⟩ := hat3
        exact (slotA r (i := 19) rfl).litE
      have hkey := WideMaps.keyOf_string_mk (P := Tryz.prog) Tryz.underlying9 hsz
      rw [wpOpsIn_cons]
      refine step_look (o := o5 3) rfl rfl rfl (by decide) rfl rfl hat3 (Maps.string_keyed Tryz.underlying9) Tryz.underlying239 Tryz.underlying3 (Tryz.zeroValue3 _) hkey h17 h19 (ht.2 s) fun a4 hat4 hd4 => ?_
      change wpOpsIn _ _ _ (opsOf c5) _ ([(4, o5 4), (5, o5 5), (6, o5 6), (7, o5 7), (8, o5 8), (9, o5 9), (10, o5 10), (11, o5 11)].map Prod.fst ++ []) _ _
      have hops : ∀ p ∈ [(4, o5 4), (5, o5 5), (6, o5 6), (7, o5 7), (8, o5 8), (9, o5 9), (10, o5 10), (11, o5 11)], (opsOf c5)[p.1]? = some p.2 := by
        intro p hp
        simp only [List.mem_cons, List.not_mem_nil, or_false] at hp
        rcases hp with rfl | rfl | rfl | rfl | rfl | rfl | rfl | rfl <;> rfl
      -- the way out
      have out : ∀ (x : Slot) (a5 : Act) (w5 : World), b = false → AtSt d Tryz.f187.ntmps G0 w0 { s := lkS (L9 es m f q es.length i s q1 q2 q3 q4 q5 ++ [(28, x)]), h := hO } a5 w5 → a5.defers = [] → a5.tmps.getD 28 undef = .bool true →
          ∀ Q' : Exit → Act → World → Prop, (∀ a w, Q .ret a w → Q' .ret a w) → cc.wpIn (FF none) 0 Tryz.prog Q' a5 w5 := by
        intro x a5 w5 hbf hat5 hd5 h28 Q' hQ'
        refine wpIn_cond_true h28 (wpIn_seq (seg_keep (H := HH) (n := 0) (bi := 0) okE0 hs [6] (k6 es m f q es.length i hO F s q1 q2 q3 q4 q5 x) hat5 hd5 fun a6 w6 hat6 hd6 => ?_))
        exact wpIn_ret (hQ' _ _ (hret hbf a6 w6 hat6 hd6))
      cases hseen : seenB seen s with
      | true =>
        rw [hseen, cond_true] at hd
        have hd := Option.some.inj hd
        have hbf : b = false := (Prod.mk.inj hd).1.symm
        have hhh := (Prod.mk.inj hd).2
        subst hhh
        rw [hseen] at hat4
        refine ops_map (H := HH) okE0 hs [0, 1, 2, 7, 11, 12, 13, 9, 28] _ (k5t es m f q es.length i h F s q1 q2 q3 q4 q5) hops hat4 (hd4.trans hd3) fun a5 w5 hat5 hd5 => ?_
        have h28 : a5.tmps.getD 28 undef = .bool true := by
          obtain ⟨G, r, _⟩ := hat5
          exact (slotA r (i := 28) rfl).litE
        exact out _ a5 w5 hbf hat5.at hd5 h28 _ fun a w h => h
      | false =>
        rw [hseen, cond_false, Option.bind_eq_some_iff] at hd
        obtain ⟨⟨b1, h1'⟩, hb1, hd⟩ := hd
        have hF := boolR_eq hb1
        rw [hseen] at hat4
        have hk := k5f es m f q es.length i h F s q1 q2 q3 q4 q5
        rw [applyS, hF, onOut_ret] at hk
        refine ops_map (H := HH) okE0 hs [0, 1, 2, 7, 11, 12, 13, 9, 28] _ (hk.trans (by rfl : _ = some (L9 es m f q es.length i s q1 q2 q3 q4 q5 ++ [(28, bv (!b1))], h1'))) hops hat4 (hd4.trans hd3) fun a5 w5 hat5 hd5 => ?_
        have h28 : a5.tmps.getD 28 undef = .bool (!b1) := by
          obtain ⟨G, r, _⟩ := hat5
          exact (slotA r (i := 28) rfl).litE
        cases b1 with
        | false =>
          have hd := Option.some.inj hd
          have hbf : b = false := (Prod.mk.inj hd).1.symm
          have hhh := (Prod.mk.inj hd).2
          subst hhh
          exact out _ a5 w5 hbf hat5.at hd5 h28 _ fun a w h => h
        | true =>
          refine wpIn_cond_false h28 (wpIn_skip ?_)
          refine wpIn_region (ops := opsOf c7) ?_
          change wpOpsIn _ _ _ (opsOf c7) _ ([(0, o7 0), (1, o7 1), (2, o7 2)].map Prod.fst ++ [3, 4, 5]) _ _
          refine ops_map (H := HH) okE0 hs [0, 1, 2, 7, 11, 12, 13, 29, 31] _ (k7 es m f q es.length i h1' F s q1 q2 q3 q4 q5 (bv (!true))) ?_ hat5 hd5 fun a6 w6 hat6 hd6 => ?_
          · intro p hp
            simp only [List.mem_cons, List.not_mem_nil, or_false] at hp
            rcases hp with rfl | rfl | rfl <;> rfl
          have h29 : ∀ {x : List (Nat × Slot)} {k : Nat} {X : DataW Unit} {a : Act} {w : World}, LM q k X d G0 w0 (LL es m f q es.length i ++ ((29, mv q) :: x)) h1' a w → a.eval (.tmp 29) = .map (some q) := by
            intro x k X a w ⟨G, r, _⟩
            exact (slotA r (i := 29) rfl).litE
          have h31 : ∀ {x : List (Nat × Slot)} {k : Nat} {X : DataW Unit} {a : Act} {w : World}, LM q k X d G0 w0 (LL es m f q es.length i ++ ((29, mv q) :: (31, sv s) :: x)) h1' a w → a.eval (.tmp 31) = .string s := by
            intro x k X a w ⟨G, r, _⟩
            exact (slotA r (i := 31) rfl).litE
          rw [wpOpsIn_cons]
          have ht2 := ht.2 s
          rw [hseen] at ht2
          refine step_look (o := o7 3) rfl rfl rfl (by decide) rfl rfl hat6 (Maps.string_keyed Tryz.underlying9) Tryz.underlying239 Tryz.underlying3 (Tryz.zeroValue3 _) hkey (h29 hat6) (h31 hat6) ht2 fun a7 hat7 hd7 => ?_
          change wpOpsIn _ _ _ (opsOf c7) _ ([(4, o7 4)].map Prod.fst ++ [5]) _ _
          refine ops_map (H := HH) okE0 hs [0, 1, 2, 7, 11, 12, 13, 29, 31, 33] _ (k7b es m f q es.length i h1' F s 0) ?_ hat7 (hd7.trans hd6) fun a8 w8 hat8 hd8 => ?_
          · intro p hp
            simp only [List.mem_cons, List.not_mem_nil, or_false] at hp
            rcases hp with rfl; rfl
          have h33 : a8.eval (.tmp 33) = .int .i64 1 := by
            obtain ⟨G, r, _⟩ := hat8
            exact (slotA r (i := 33) rfl).litE
          rw [wpOpsIn_cons]
          refine step_update (o := o7 5) rfl rfl rfl rfl hat8 hq (Maps.string_keyed Tryz.underlying9) Tryz.underlying239 Tryz.underlying3 (Nat.lt_of_lt_of_le hi (Nat.le_trans hle (by decide))) hkey (c := 1) (by decide) (h29 hat8) (h31 hat8) h33 fun a9 w9 hat9 hd9 => ?_
          have hk8 := k8 es m f q es.length i h1' F s (iv (IntKind.i64.wrap (0 + 1)))
          rw [show IntKind.i64.wrap ((i : Int) + 1) = ((i + 1 : Nat) : Int) from ?_] at hk8
          · refine seg_map (H := HH) (n := 0) (bi := 0) okE0 hs [0, 1, 2, 7, 11, 12, 13] hk8 hat9 (hd9.trans hd8) fun a10 w10 hat10 hd10 => ?_
            exact loop_ok hs hq hle hex hret M (i + 1) (s :: seen) _ h1' a10 w10 (by omega) hi hd (told_put ht s) hat10 hd10
          · have := inc (i := i) (Nat.lt_of_lt_of_le hi (Nat.le_trans hle (by decide)))
            simpa [intBin] using this
    · have e1 : decide ((i : Int) < (es.length : Int)) = false := by simpa using hi
      rw [e1] at hb
      have e2 : i = es.length := by omega
      subst e2
      rw [List.drop_length, distW] at hd
      have hd := Option.some.inj hd
      have hbf : b = true := (Prod.mk.inj hd).1.symm
      have hhh := (Prod.mk.inj hd).2
      subst hhh
      refine wpIn_seq (wpIn_cond_false hb (wpIn_exit ?_))
      exact hex hbf a1 w1 _ hat1.at hd1
end
end DI
end Go.Sh.T

/- exp.distinct, whole. -/
namespace Go.Sh.T
set_option maxRecDepth 100000
set_option linter.unusedVariables false
set_option linter.unusedSimpArgs false
open Go Go.Sh Go.Proofs

namespace DI
open W26 (pL pR)
theorem done_ok {d : Nat} {G0 : Gh} {w0 : World} {h : Heap} {a : Act} {w : World} {b : Bool} (hat : AtSt d Tryz.f187.ntmps G0 w0 { s := lkS [(6, bv b)], h := h } a w) (hd : a.defers = []) : bodyPost Tryz.prog Tryz.f187 (EndOk d G0 w0 (.ret (.lit (.bool b))) h) .ret a w := by
  obtain ⟨G, r, hnt, hf⟩ := hat
  obtain ⟨v, k1, ⟨G', k2, k3, k4, k5⟩, _⟩ := finish_ok (G0 := G) (w0 := w) okE0 r.heap r (Fr.refl _ _ _) (kF h h b)
  exact ⟨hd, v, k1, G', hf.trans k2, k3, k4, k5⟩
theorem ends {F : Nat → List AV → Heap → R} (hs : SoundC Tryz.prog F) (es : List (List AV)) (m : Int) (f : Nat) (hle : es.length ≤ maxApp) {h hO : Heap} {b : Bool} (hd : distW F f es [] h = some (b, hO)) :
    Ends Tryz.prog 187 [.sl 6 es, .lit (.int .i64 m), .fn f [] []] h (.ret (.lit (.bool (b && decide ((es.length : Int) ≤ m))))) hO := by
  refine ⟨⟨Tryz.f187, Tryz.func187, by kernel_rfl, rfl⟩, fun d G w argv hr hh hw => ?_⟩
  refine calls_of_wp Tryz.func187 rfl ?_
  refine (wpIn_wide (n := 0)).1 ?_
  have hal : argv.size = 3 := by simpa using hr.length.symm
  have hat : AtSt d Tryz.f187.ntmps G w { s := lkS (argSlots 0 [.sl 6 es, .lit (.int .i64 m), .fn f [] []]), h := h } { tmps := argv ++ Array.replicate (Tryz.f187.ntmps - argv.size) undef, defers := [] } w := by
    refine ⟨G, ⟨fun i => ?_, fun u t off hu => ?_, hh, hw⟩, by rw [Array.size_append, Array.size_replicate, hal]; rfl, Fr.refl d G w⟩
    · rcases lkS_spec (argSlots 0 [.sl 6 es, .lit (.int .i64 m), .fn f [] []]) i with e1 | e1
      · show RepSlot _ _ _ _ (lkS _ _) _
        rw [e1]; trivial
      · refine argSlots_spec _ 0 argv.toList hr (fun j x hj => ?_) _ e1
        have hj' : j < argv.size := by simpa using (List.getElem?_eq_some_iff.1 hj).1
        rw [Nat.zero_add, Array.getD_eq_getD_getElem?, Array.getElem?_append_left hj', ← Array.getElem?_toList, hj]; rfl
    · exfalso
      have hu : lkS (argSlots 0 [.sl 6 es, .lit (.int .i64 m), .fn f [] []]) u = .path t off := hu
      rcases lkS_spec (argSlots 0 [.sl 6 es, .lit (.int .i64 m), .fn f [] []]) u with e1 | e1
      · rw [e1] at hu; cases hu
      · rw [hu] at e1; simp [argSlots] at e1
  refine wpIn_seq (seg_keep okE0 hs (H := HH) (n := 0) (bi := 0) [0, 1, 2] (k0 es m f h F) hat rfl fun a1 w1 hat1 hd1 => ?_)
  refine wpIn_seq (wpIn_region (ops := opsOf c1) ?_)
  change wpOpsIn _ _ _ (opsOf c1) _ [0, 1] _ _
  rw [wpOpsIn_cons]
  refine step_make (k := 9) (e := 3) (o := o1 0) rfl rfl rfl (by decide) rfl rfl hat1 fun a2 w2 q hq hat2 hd2 => ?_
  change wpOpsIn _ _ _ (opsOf c1) _ ([(1, o1 1)].map Prod.fst ++ []) _ _
  refine ops_map (H := HH) okE0 hs [0, 1, 2, 7] _ (k1 es m f q h F) ?_ hat2 (hd2.trans hd1) fun a3 w3 hat3 hd3 => ?_
  · intro p hp
    simp only [List.mem_cons, List.not_mem_nil, or_false] at hp
    rcases hp with rfl; rfl
  have hk2 := k2 es m f q h F
  rw [lenA47, bind_some'] at hk2
  refine wpIn_seq (wpIn_seq (seg_map (H := HH) (n := 0) (bi := 0) okE0 hs [0, 1, 2, 7, 11, 12, 13] hk2 hat3 hd3 fun a4 w4 hat4 hd4 => ?_))
  refine wpIn_block (wpIn_loop_rounds (es.length + 1) ?_)
  refine loop_ok (b := b) (hO := hO) (f := f) (m := m) hs hq hle ?_ ?_ (es.length + 1) 0 [] _ h a4 w4 (by omega) (Nat.zero_le _) (by rw [List.drop_zero]; exact hd) told_nil hat4 hd4
  · intro hb a5 w5 x hat5 hd5
    have hk9 := k9 es m f q es.length es.length hO F
    rw [lenA47, bind_some'] at hk9
    have hat6 := AtSt.keep (some [0, 1, 2, 7, 11, 12, 13]) hat5
    show Code.wpIn (FF none) 0 Tryz.prog (pR (pR (pR body))) (bodyPost Tryz.prog Tryz.f187 (EndOk d G w (.ret (.lit (.bool (b && decide ((es.length : Int) ≤ m))))) hO)) a5 w5
    refine wpIn_seq (seg_keep (H := HH) (n := 0) (bi := 0) okE0 hs [6] hk9 hat6 hd5 fun a7 w7 hat7 hd7 => ?_)
    rw [hb]
    exact wpIn_ret (done_ok hat7 hd7)
  · intro hb a5 w5 hat5 hd5
    rw [hb]
    exact done_ok hat5 hd5

theorem distW_mono {c c' : Nat → List AV → Heap → R} (hc : Le c c') (f : Nat) : ∀ (es : List (List AV)) (seen : List ByteArray) (h : Heap) {p : Bool × Heap}, distW c f es seen h = some p → distW c' f es seen h = some p
  | [], seen, h, p, e => e
  | x :: r, seen, h, p, e => by
    rw [distW, Option.bind_eq_some_iff] at e ⊢
    obtain ⟨s, hs, e⟩ := e
    refine ⟨s, hs, ?_⟩
    obtain ⟨h1, e⟩ := condE e
    rw [h1, cond_true]
    cases hz : seenB seen s with
    | true => rw [hz] at e; exact e
    | false =>
      rw [hz, cond_false, Option.bind_eq_some_iff] at e
      rw [cond_false, Option.bind_eq_some_iff]
      obtain ⟨y, hy, e⟩ := e
      refine ⟨y, by rw [hc _ _ _ _ (boolR_eq hy)]; rfl, ?_⟩
      cases hb : y.1 with
      | true => rw [hb] at e; exact distW_mono hc f r _ _ e
      | false => rw [hb] at e; exact e
theorem le_up {c : Nat → Nat → List AV → Heap → R} (hc : ∀ k, Le (c k) (c (k + 1))) {k : Nat} : ∀ {j : Nat}, k ≤ j → Le (c k) (c j) := by
  intro j hj
  induction hj with
  | refl => exact fun _ _ _ _ h => h
  | step _ ih => exact fun _ _ _ _ h => hc _ _ _ _ _ (ih _ _ _ _ h)
theorem distW_few {c : Nat → Nat → List AV → Heap → R} {c' : Nat → List AV → Heap → R} (hc : ∀ k, Le (c k) (c (k + 1))) (hl : ∀ f args h r, c' f args h = some r → ∃ k, c k f args h = some r) (f : Nat) : ∀ (es : List (List AV)) (seen : List ByteArray) (h : Heap) {p : Bool × Heap}, distW c' f es seen h = some p → ∃ k, distW (c k) f es seen h = some p
  | [], seen, h, p, e => ⟨0, e⟩
  | x :: r, seen, h, p, e => by
    rw [distW, Option.bind_eq_some_iff] at e
    obtain ⟨s, hs, e⟩ := e
    obtain ⟨h1, e⟩ := condE e
    cases hz : seenB seen s with
    | true => rw [hz] at e; exact ⟨0, by rw [distW, hs, bind_some', h1, hz]; exact e⟩
    | false =>
      rw [hz, cond_false, Option.bind_eq_some_iff] at e
      obtain ⟨y, hy, e⟩ := e
      obtain ⟨k1, hk1⟩ := hl _ _ _ _ (boolR_eq hy)
      cases hb : y.1 with
      | true =>
        rw [hb] at e hk1
        obtain ⟨k2, hk2⟩ := distW_few hc hl f r _ _ e
        refine ⟨max k1 k2, ?_⟩
        rw [distW, hs, bind_some', h1, hz, cond_true, cond_false, le_up hc (Nat.le_max_left k1 k2) _ _ _ _ hk1]
        exact distW_mono (le_up hc (Nat.le_max_right k1 k2)) f r _ _ hk2
      | false =>
        rw [hb] at e hk1
        exact ⟨k1, by rw [distW, hs, bind_some', h1, hz, cond_true, cond_false, hk1]; exact e⟩
end DI
def p187 : (Nat → List AV → Heap → R) → List AV → Heap → R := fun call args h => match args with
  | [.sl 6 es, .lit (.int .i64 m), .fn f [] []] => bif Nat.ble es.length maxApp then (DI.distW call f es [] h).bind fun p => some (.ret (.lit (.bool (p.1 && decide ((es.length : Int) ≤ m)))), p.2) else none
  | _ => none
theorem p187_ok (call : Nat → List AV → Heap → R) (hs : SoundC Tryz.prog call) (args : List AV) (h : Heap) (out : Out) (h' : Heap) (e : p187 call args h = some (out, h')) : Ends Tryz.prog 187 args h out h' := by
  unfold p187 at e
  split at e
  · obtain ⟨h1, e⟩ := condE e
    rw [Option.bind_eq_some_iff] at e
    obtain ⟨p, hp, e⟩ := e
    have e := Option.some.inj e; cases e
    exact DI.ends hs _ _ _ (Nat.le_of_ble_eq_true h1) hp
  · cases e
theorem p187_c : PrimC p187 := by
  constructor
  · intro c c' hc args h r e
    unfold p187 at e ⊢
    split at e
    · obtain ⟨h1, e⟩ := condE e
      rw [Option.bind_eq_some_iff] at e
      obtain ⟨p, hp, e⟩ := e
      simp only [h1, cond_true]
      rw [DI.distW_mono hc _ _ _ _ hp]; exact e
    · cases e
  · intro c c' hc hl args h r e
    unfold p187 at e
    split at e
    · obtain ⟨h1, e⟩ := condE e
      rw [Option.bind_eq_some_iff] at e
      obtain ⟨p, hp, e⟩ := e
      obtain ⟨k, hk⟩ := DI.distW_few hc hl _ _ _ _ hp
      refine ⟨k, ?_⟩
      unfold p187
      simp only [h1, cond_true]
      rw [hk]; exact e
    · cases e
end Go.Sh.T
