/- Part 2 of the proof of IrEndsC: the texts Types, Bits, Tz, Bits2, Open, Model, Ir, IrM, Misc, Ins, IrS, RefA, RefB, Reach, Dfs, FlowLaw, IrL, one behind the other. -/
import Derived.Test.YtcojedoejpcolaaGreatProg
import Derived.KernelRfl
import Derived.Test.YtcojedoejpcolaaGreatRows
import Derived.WalkKit
import Derived.ProofKit
import Derived.OpenShut
import Derived.ChangeOld
import Derived.Below
import Derived.SizedLaws
import Derived.LaidMore
import Derived.Stop.Joined
import Derived.LaidHandle
import Derived.Lib.LaidTab
import Derived.Test.YtcojedoejpcolaaGreatIrEndsCM1
/- Facts on types, and that functions are entered; by gen.py. -/
namespace Go.Proofs.YtcojedoejpcolaaGreat
set_option linter.unusedVariables false
open Go
set_option maxRecDepth 100000
theorem sz_L_L_api_Block : (Tryz.prog.info? 129).map (·.size) = some 1 := by kernel_rfl
theorem zr_L_L_api_Block : ZrT Tryz.prog 129 (.slice none 0 0) := .mk (by kernel_rfl)
theorem one_L_L_api_Block : OneT Tryz.prog 129 := .mk (by kernel_rfl)
theorem sl_L_L_api_Block : SlT Tryz.prog 129 35 1 24 := ⟨by kernel_rfl, by kernel_rfl⟩
theorem sz_L_L_api_Call : (Tryz.prog.info? 137).map (·.size) = some 1 := by kernel_rfl
theorem zr_L_L_api_Call : ZrT Tryz.prog 137 (.slice none 0 0) := .mk (by kernel_rfl)
theorem one_L_L_api_Call : OneT Tryz.prog 137 := .mk (by kernel_rfl)
theorem sl_L_L_api_Call : SlT Tryz.prog 137 44 1 24 := ⟨by kernel_rfl, by kernel_rfl⟩
theorem sz_L_L_api_Edge : (Tryz.prog.info? 135).map (·.size) = some 1 := by kernel_rfl
theorem zr_L_L_api_Edge : ZrT Tryz.prog 135 (.slice none 0 0) := .mk (by kernel_rfl)
theorem one_L_L_api_Edge : OneT Tryz.prog 135 := .mk (by kernel_rfl)
theorem sl_L_L_api_Edge : SlT Tryz.prog 135 217 1 24 := ⟨by kernel_rfl, by kernel_rfl⟩
theorem sz_L_L_api_Fact : (Tryz.prog.info? 134).map (·.size) = some 1 := by kernel_rfl
theorem zr_L_L_api_Fact : ZrT Tryz.prog 134 (.slice none 0 0) := .mk (by kernel_rfl)
theorem one_L_L_api_Fact : OneT Tryz.prog 134 := .mk (by kernel_rfl)
theorem sl_L_L_api_Fact : SlT Tryz.prog 134 213 1 24 := ⟨by kernel_rfl, by kernel_rfl⟩
theorem sz_L_L_api_Func : (Tryz.prog.info? 130).map (·.size) = some 1 := by kernel_rfl
theorem zr_L_L_api_Func : ZrT Tryz.prog 130 (.slice none 0 0) := .mk (by kernel_rfl)
theorem one_L_L_api_Func : OneT Tryz.prog 130 := .mk (by kernel_rfl)
theorem sl_L_L_api_Func : SlT Tryz.prog 130 197 1 24 := ⟨by kernel_rfl, by kernel_rfl⟩
theorem sz_L_L_api_Ins : (Tryz.prog.info? 128).map (·.size) = some 1 := by kernel_rfl
theorem zr_L_L_api_Ins : ZrT Tryz.prog 128 (.slice none 0 0) := .mk (by kernel_rfl)
theorem one_L_L_api_Ins : OneT Tryz.prog 128 := .mk (by kernel_rfl)
theorem sl_L_L_api_Ins : SlT Tryz.prog 128 32 1 24 := ⟨by kernel_rfl, by kernel_rfl⟩
theorem sz_L_L_api_Loc : (Tryz.prog.info? 133).map (·.size) = some 1 := by kernel_rfl
theorem zr_L_L_api_Loc : ZrT Tryz.prog 133 (.slice none 0 0) := .mk (by kernel_rfl)
theorem one_L_L_api_Loc : OneT Tryz.prog 133 := .mk (by kernel_rfl)
theorem sl_L_L_api_Loc : SlT Tryz.prog 133 209 1 24 := ⟨by kernel_rfl, by kernel_rfl⟩
theorem sz_L_L_api_Machine : (Tryz.prog.info? 132).map (·.size) = some 1 := by kernel_rfl
theorem zr_L_L_api_Machine : ZrT Tryz.prog 132 (.slice none 0 0) := .mk (by kernel_rfl)
theorem one_L_L_api_Machine : OneT Tryz.prog 132 := .mk (by kernel_rfl)
theorem sl_L_L_api_Machine : SlT Tryz.prog 132 204 1 24 := ⟨by kernel_rfl, by kernel_rfl⟩
theorem sz_L_L_api_Target : (Tryz.prog.info? 131).map (·.size) = some 1 := by kernel_rfl
theorem zr_L_L_api_Target : ZrT Tryz.prog 131 (.slice none 0 0) := .mk (by kernel_rfl)
theorem one_L_L_api_Target : OneT Tryz.prog 131 := .mk (by kernel_rfl)
theorem sl_L_L_api_Target : SlT Tryz.prog 131 199 1 24 := ⟨by kernel_rfl, by kernel_rfl⟩
theorem sz_L_L_api_Tile : (Tryz.prog.info? 136).map (·.size) = some 1 := by kernel_rfl
theorem zr_L_L_api_Tile : ZrT Tryz.prog 136 (.slice none 0 0) := .mk (by kernel_rfl)
theorem one_L_L_api_Tile : OneT Tryz.prog 136 := .mk (by kernel_rfl)
theorem sl_L_L_api_Tile : SlT Tryz.prog 136 221 1 24 := ⟨by kernel_rfl, by kernel_rfl⟩
theorem sz_L_L_bool : (Tryz.prog.info? 127).map (·.size) = some 1 := by kernel_rfl
theorem zr_L_L_bool : ZrT Tryz.prog 127 (.slice none 0 0) := .mk (by kernel_rfl)
theorem one_L_L_bool : OneT Tryz.prog 127 := .mk (by kernel_rfl)
theorem sl_L_L_bool : SlT Tryz.prog 127 141 1 24 := ⟨by kernel_rfl, by kernel_rfl⟩
theorem sz_L_L_int : (Tryz.prog.info? 72).map (·.size) = some 1 := by kernel_rfl
theorem zr_L_L_int : ZrT Tryz.prog 72 (.slice none 0 0) := .mk (by kernel_rfl)
theorem one_L_L_int : OneT Tryz.prog 72 := .mk (by kernel_rfl)
theorem sl_L_L_int : SlT Tryz.prog 72 22 1 24 := ⟨by kernel_rfl, by kernel_rfl⟩
theorem sz_L_L_int64 : (Tryz.prog.info? 124).map (·.size) = some 1 := by kernel_rfl
theorem zr_L_L_int64 : ZrT Tryz.prog 124 (.slice none 0 0) := .mk (by kernel_rfl)
theorem one_L_L_int64 : OneT Tryz.prog 124 := .mk (by kernel_rfl)
theorem sl_L_L_int64 : SlT Tryz.prog 124 190 1 24 := ⟨by kernel_rfl, by kernel_rfl⟩
theorem sz_L_L_string : (Tryz.prog.info? 125).map (·.size) = some 1 := by kernel_rfl
theorem zr_L_L_string : ZrT Tryz.prog 125 (.slice none 0 0) := .mk (by kernel_rfl)
theorem one_L_L_string : OneT Tryz.prog 125 := .mk (by kernel_rfl)
theorem sl_L_L_string : SlT Tryz.prog 125 191 1 24 := ⟨by kernel_rfl, by kernel_rfl⟩
theorem sz_L_L_uint32 : (Tryz.prog.info? 122).map (·.size) = some 1 := by kernel_rfl
theorem zr_L_L_uint32 : ZrT Tryz.prog 122 (.slice none 0 0) := .mk (by kernel_rfl)
theorem one_L_L_uint32 : OneT Tryz.prog 122 := .mk (by kernel_rfl)
theorem sl_L_L_uint32 : SlT Tryz.prog 122 186 1 24 := ⟨by kernel_rfl, by kernel_rfl⟩
theorem sz_L_L_uint64 : (Tryz.prog.info? 123).map (·.size) = some 1 := by kernel_rfl
theorem zr_L_L_uint64 : ZrT Tryz.prog 123 (.slice none 0 0) := .mk (by kernel_rfl)
theorem one_L_L_uint64 : OneT Tryz.prog 123 := .mk (by kernel_rfl)
theorem sl_L_L_uint64 : SlT Tryz.prog 123 188 1 24 := ⟨by kernel_rfl, by kernel_rfl⟩
theorem sz_L_L_uint8 : (Tryz.prog.info? 126).map (·.size) = some 1 := by kernel_rfl
theorem zr_L_L_uint8 : ZrT Tryz.prog 126 (.slice none 0 0) := .mk (by kernel_rfl)
theorem one_L_L_uint8 : OneT Tryz.prog 126 := .mk (by kernel_rfl)
theorem sl_L_L_uint8 : SlT Tryz.prog 126 193 1 24 := ⟨by kernel_rfl, by kernel_rfl⟩
theorem sz_L_P_run_Run : (Tryz.prog.info? 108).map (·.size) = some 1 := by kernel_rfl
theorem zr_L_P_run_Run : ZrT Tryz.prog 108 (.slice none 0 0) := .mk (by kernel_rfl)
theorem one_L_P_run_Run : OneT Tryz.prog 108 := .mk (by kernel_rfl)
theorem sl_L_P_run_Run : SlT Tryz.prog 108 54 1 8 := ⟨by kernel_rfl, by kernel_rfl⟩
theorem sz_L_api_Block : (Tryz.prog.info? 35).map (·.size) = some 1 := by kernel_rfl
theorem zr_L_api_Block : ZrT Tryz.prog 35 (.slice none 0 0) := .mk (by kernel_rfl)
theorem one_L_api_Block : OneT Tryz.prog 35 := .mk (by kernel_rfl)
theorem sl_L_api_Block : SlT Tryz.prog 35 34 5 56 := ⟨by kernel_rfl, by kernel_rfl⟩
theorem sz_L_api_Call : (Tryz.prog.info? 44).map (·.size) = some 1 := by kernel_rfl
theorem zr_L_api_Call : ZrT Tryz.prog 44 (.slice none 0 0) := .mk (by kernel_rfl)
theorem one_L_api_Call : OneT Tryz.prog 44 := .mk (by kernel_rfl)
theorem sl_L_api_Call : SlT Tryz.prog 44 106 2 32 := ⟨by kernel_rfl, by kernel_rfl⟩
theorem sz_L_api_Edge : (Tryz.prog.info? 217).map (·.size) = some 1 := by kernel_rfl
theorem zr_L_api_Edge : ZrT Tryz.prog 217 (.slice none 0 0) := .mk (by kernel_rfl)
theorem one_L_api_Edge : OneT Tryz.prog 217 := .mk (by kernel_rfl)
theorem sl_L_api_Edge : SlT Tryz.prog 217 219 3 24 := ⟨by kernel_rfl, by kernel_rfl⟩
theorem sz_L_api_Fact : (Tryz.prog.info? 213).map (·.size) = some 1 := by kernel_rfl
theorem zr_L_api_Fact : ZrT Tryz.prog 213 (.slice none 0 0) := .mk (by kernel_rfl)
theorem one_L_api_Fact : OneT Tryz.prog 213 := .mk (by kernel_rfl)
theorem sl_L_api_Fact : SlT Tryz.prog 213 215 3 24 := ⟨by kernel_rfl, by kernel_rfl⟩
theorem sz_L_api_Func : (Tryz.prog.info? 197).map (·.size) = some 1 := by kernel_rfl
theorem zr_L_api_Func : ZrT Tryz.prog 197 (.slice none 0 0) := .mk (by kernel_rfl)
theorem one_L_api_Func : OneT Tryz.prog 197 := .mk (by kernel_rfl)
theorem sl_L_api_Func : SlT Tryz.prog 197 37 2 48 := ⟨by kernel_rfl, by kernel_rfl⟩
theorem sz_L_api_Ins : (Tryz.prog.info? 32).map (·.size) = some 1 := by kernel_rfl
theorem zr_L_api_Ins : ZrT Tryz.prog 32 (.slice none 0 0) := .mk (by kernel_rfl)
theorem one_L_api_Ins : OneT Tryz.prog 32 := .mk (by kernel_rfl)
theorem sl_L_api_Ins : SlT Tryz.prog 32 25 8 80 := ⟨by kernel_rfl, by kernel_rfl⟩
theorem sz_L_api_Loc : (Tryz.prog.info? 209).map (·.size) = some 1 := by kernel_rfl
theorem zr_L_api_Loc : ZrT Tryz.prog 209 (.slice none 0 0) := .mk (by kernel_rfl)
theorem one_L_api_Loc : OneT Tryz.prog 209 := .mk (by kernel_rfl)
theorem sl_L_api_Loc : SlT Tryz.prog 209 211 2 16 := ⟨by kernel_rfl, by kernel_rfl⟩
theorem sz_L_api_Machine : (Tryz.prog.info? 204).map (·.size) = some 1 := by kernel_rfl
theorem zr_L_api_Machine : ZrT Tryz.prog 204 (.slice none 0 0) := .mk (by kernel_rfl)
theorem one_L_api_Machine : OneT Tryz.prog 204 := .mk (by kernel_rfl)
theorem sl_L_api_Machine : SlT Tryz.prog 204 206 4 64 := ⟨by kernel_rfl, by kernel_rfl⟩
theorem sz_L_api_Target : (Tryz.prog.info? 199).map (·.size) = some 1 := by kernel_rfl
theorem zr_L_api_Target : ZrT Tryz.prog 199 (.slice none 0 0) := .mk (by kernel_rfl)
theorem one_L_api_Target : OneT Tryz.prog 199 := .mk (by kernel_rfl)
theorem sl_L_api_Target : SlT Tryz.prog 199 201 2 32 := ⟨by kernel_rfl, by kernel_rfl⟩
theorem sz_L_api_Tile : (Tryz.prog.info? 221).map (·.size) = some 1 := by kernel_rfl
theorem zr_L_api_Tile : ZrT Tryz.prog 221 (.slice none 0 0) := .mk (by kernel_rfl)
theorem one_L_api_Tile : OneT Tryz.prog 221 := .mk (by kernel_rfl)
theorem sl_L_api_Tile : SlT Tryz.prog 221 224 3 40 := ⟨by kernel_rfl, by kernel_rfl⟩
theorem sz_L_bool : (Tryz.prog.info? 141).map (·.size) = some 1 := by kernel_rfl
theorem zr_L_bool : ZrT Tryz.prog 141 (.slice none 0 0) := .mk (by kernel_rfl)
theorem one_L_bool : OneT Tryz.prog 141 := .mk (by kernel_rfl)
theorem sl_L_bool : SlT Tryz.prog 141 4 1 1 := ⟨by kernel_rfl, by kernel_rfl⟩
theorem sz_L_int : (Tryz.prog.info? 22).map (·.size) = some 1 := by kernel_rfl
theorem zr_L_int : ZrT Tryz.prog 22 (.slice none 0 0) := .mk (by kernel_rfl)
theorem one_L_int : OneT Tryz.prog 22 := .mk (by kernel_rfl)
theorem sl_L_int : SlT Tryz.prog 22 3 1 8 := ⟨by kernel_rfl, by kernel_rfl⟩
theorem sz_L_int64 : (Tryz.prog.info? 190).map (·.size) = some 1 := by kernel_rfl
theorem zr_L_int64 : ZrT Tryz.prog 190 (.slice none 0 0) := .mk (by kernel_rfl)
theorem one_L_int64 : OneT Tryz.prog 190 := .mk (by kernel_rfl)
theorem sl_L_int64 : SlT Tryz.prog 190 2 1 8 := ⟨by kernel_rfl, by kernel_rfl⟩
theorem sz_L_ir_set : (Tryz.prog.info? 178).map (·.size) = some 1 := by kernel_rfl
theorem zr_L_ir_set : ZrT Tryz.prog 178 (.slice none 0 0) := .mk (by kernel_rfl)
theorem one_L_ir_set : OneT Tryz.prog 178 := .mk (by kernel_rfl)
theorem sl_L_ir_set : SlT Tryz.prog 178 145 201 201 := ⟨by kernel_rfl, by kernel_rfl⟩
theorem sz_L_string : (Tryz.prog.info? 191).map (·.size) = some 1 := by kernel_rfl
theorem zr_L_string : ZrT Tryz.prog 191 (.slice none 0 0) := .mk (by kernel_rfl)
theorem one_L_string : OneT Tryz.prog 191 := .mk (by kernel_rfl)
theorem sl_L_string : SlT Tryz.prog 191 9 1 16 := ⟨by kernel_rfl, by kernel_rfl⟩
theorem sz_L_uint32 : (Tryz.prog.info? 186).map (·.size) = some 1 := by kernel_rfl
theorem zr_L_uint32 : ZrT Tryz.prog 186 (.slice none 0 0) := .mk (by kernel_rfl)
theorem one_L_uint32 : OneT Tryz.prog 186 := .mk (by kernel_rfl)
theorem sl_L_uint32 : SlT Tryz.prog 186 187 1 4 := ⟨by kernel_rfl, by kernel_rfl⟩
theorem sz_L_uint64 : (Tryz.prog.info? 188).map (·.size) = some 1 := by kernel_rfl
theorem zr_L_uint64 : ZrT Tryz.prog 188 (.slice none 0 0) := .mk (by kernel_rfl)
theorem one_L_uint64 : OneT Tryz.prog 188 := .mk (by kernel_rfl)
theorem sl_L_uint64 : SlT Tryz.prog 188 189 1 8 := ⟨by kernel_rfl, by kernel_rfl⟩
theorem sz_L_uint8 : (Tryz.prog.info? 193).map (·.size) = some 1 := by kernel_rfl
theorem zr_L_uint8 : ZrT Tryz.prog 193 (.slice none 0 0) := .mk (by kernel_rfl)
theorem one_L_uint8 : OneT Tryz.prog 193 := .mk (by kernel_rfl)
theorem sl_L_uint8 : SlT Tryz.prog 193 5 1 1 := ⟨by kernel_rfl, by kernel_rfl⟩
theorem sz_P_int : (Tryz.prog.info? 153).map (·.size) = some 1 := by kernel_rfl
theorem zr_P_int : ZrT Tryz.prog 153 (.pointer none) := .mk (by kernel_rfl)
theorem one_P_int : OneT Tryz.prog 153 := .mk (by kernel_rfl)
theorem sz_P_ir_set : (Tryz.prog.info? 232).map (·.size) = some 1 := by kernel_rfl
theorem zr_P_ir_set : ZrT Tryz.prog 232 (.pointer none) := .mk (by kernel_rfl)
theorem one_P_ir_set : OneT Tryz.prog 232 := .mk (by kernel_rfl)
theorem sz_P_kit_bag : (Tryz.prog.info? 121).map (·.size) = some 1 := by kernel_rfl
theorem zr_P_kit_bag : ZrT Tryz.prog 121 (.pointer none) := .mk (by kernel_rfl)
theorem one_P_kit_bag : OneT Tryz.prog 121 := .mk (by kernel_rfl)
theorem sz_P_ref08_Run : (Tryz.prog.info? 50).map (·.size) = some 1 := by kernel_rfl
theorem zr_P_ref08_Run : ZrT Tryz.prog 50 (.pointer none) := .mk (by kernel_rfl)
theorem one_P_ref08_Run : OneT Tryz.prog 50 := .mk (by kernel_rfl)
theorem sz_P_run_Run : (Tryz.prog.info? 54).map (·.size) = some 1 := by kernel_rfl
theorem zr_P_run_Run : ZrT Tryz.prog 54 (.pointer none) := .mk (by kernel_rfl)
theorem one_P_run_Run : OneT Tryz.prog 54 := .mk (by kernel_rfl)
theorem sz_api_EndKind : (Tryz.prog.info? 43).map (·.size) = some 1 := by kernel_rfl
theorem zr_api_EndKind : ZrT Tryz.prog 43 (.int .i64 0) := .mk (by kernel_rfl)
theorem one_api_EndKind : OneT Tryz.prog 43 := .mk (by kernel_rfl)
theorem in_api_EndKind : InT Tryz.prog 43 .i64 := .mk (by kernel_rfl)
theorem pr_api_EndKind : primT Tryz.prog 43 (.int .i64) := ⟨in_api_EndKind, rfl, sz_api_EndKind⟩
theorem sz_api_Errno : (Tryz.prog.info? 47).map (·.size) = some 1 := by kernel_rfl
theorem zr_api_Errno : ZrT Tryz.prog 47 (.int .i64 0) := .mk (by kernel_rfl)
theorem one_api_Errno : OneT Tryz.prog 47 := .mk (by kernel_rfl)
theorem in_api_Errno : InT Tryz.prog 47 .i64 := .mk (by kernel_rfl)
theorem pr_api_Errno : primT Tryz.prog 47 (.int .i64) := ⟨in_api_Errno, rfl, sz_api_Errno⟩
theorem sz_api_Op : (Tryz.prog.info? 23).map (·.size) = some 1 := by kernel_rfl
theorem zr_api_Op : ZrT Tryz.prog 23 (.int .i64 0) := .mk (by kernel_rfl)
theorem one_api_Op : OneT Tryz.prog 23 := .mk (by kernel_rfl)
theorem in_api_Op : InT Tryz.prog 23 .i64 := .mk (by kernel_rfl)
theorem pr_api_Op : primT Tryz.prog 23 (.int .i64) := ⟨in_api_Op, rfl, sz_api_Op⟩
theorem sz_api_TermKind : (Tryz.prog.info? 27).map (·.size) = some 1 := by kernel_rfl
theorem zr_api_TermKind : ZrT Tryz.prog 27 (.int .i64 0) := .mk (by kernel_rfl)
theorem one_api_TermKind : OneT Tryz.prog 27 := .mk (by kernel_rfl)
theorem in_api_TermKind : InT Tryz.prog 27 .i64 := .mk (by kernel_rfl)
theorem pr_api_TermKind : primT Tryz.prog 27 (.int .i64) := ⟨in_api_TermKind, rfl, sz_api_TermKind⟩
theorem sz_api_TileKind : (Tryz.prog.info? 222).map (·.size) = some 1 := by kernel_rfl
theorem zr_api_TileKind : ZrT Tryz.prog 222 (.int .i64 0) := .mk (by kernel_rfl)
theorem one_api_TileKind : OneT Tryz.prog 222 := .mk (by kernel_rfl)
theorem in_api_TileKind : InT Tryz.prog 222 .i64 := .mk (by kernel_rfl)
theorem pr_api_TileKind : primT Tryz.prog 222 (.int .i64) := ⟨in_api_TileKind, rfl, sz_api_TileKind⟩
theorem sz_bool : (Tryz.prog.info? 4).map (·.size) = some 1 := by kernel_rfl
theorem zr_bool : ZrT Tryz.prog 4 (.bool false) := .mk (by kernel_rfl)
theorem one_bool : OneT Tryz.prog 4 := .mk (by kernel_rfl)
theorem bo_bool : Tryz.prog.underlying 4 = some .bool := by kernel_rfl
theorem pr_bool : primT Tryz.prog 4 .bool := ⟨bo_bool, rfl, sz_bool⟩
theorem sz_func_api_Block_bool : (Tryz.prog.info? 176).map (·.size) = some 1 := by kernel_rfl
theorem zr_func_api_Block_bool : ZrT Tryz.prog 176 .nilFunc := .mk (by kernel_rfl)
theorem one_func_api_Block_bool : OneT Tryz.prog 176 := .mk (by kernel_rfl)
theorem sz_func_api_Ins_bool : (Tryz.prog.info? 68).map (·.size) = some 1 := by kernel_rfl
theorem zr_func_api_Ins_bool : ZrT Tryz.prog 68 .nilFunc := .mk (by kernel_rfl)
theorem one_func_api_Ins_bool : OneT Tryz.prog 68 := .mk (by kernel_rfl)
theorem sz_func_int : (Tryz.prog.info? 146).map (·.size) = some 1 := by kernel_rfl
theorem zr_func_int : ZrT Tryz.prog 146 .nilFunc := .mk (by kernel_rfl)
theorem one_func_int : OneT Tryz.prog 146 := .mk (by kernel_rfl)
theorem sz_func_int_bool : (Tryz.prog.info? 113).map (·.size) = some 1 := by kernel_rfl
theorem zr_func_int_bool : ZrT Tryz.prog 113 .nilFunc := .mk (by kernel_rfl)
theorem one_func_int_bool : OneT Tryz.prog 113 := .mk (by kernel_rfl)
theorem sz_int : (Tryz.prog.info? 3).map (·.size) = some 1 := by kernel_rfl
theorem zr_int : ZrT Tryz.prog 3 (.int .i64 0) := .mk (by kernel_rfl)
theorem one_int : OneT Tryz.prog 3 := .mk (by kernel_rfl)
theorem in_int : InT Tryz.prog 3 .i64 := .mk (by kernel_rfl)
theorem pr_int : primT Tryz.prog 3 (.int .i64) := ⟨in_int, rfl, sz_int⟩
theorem sz_int64 : (Tryz.prog.info? 2).map (·.size) = some 1 := by kernel_rfl
theorem zr_int64 : ZrT Tryz.prog 2 (.int .i64 0) := .mk (by kernel_rfl)
theorem one_int64 : OneT Tryz.prog 2 := .mk (by kernel_rfl)
theorem in_int64 : InT Tryz.prog 2 .i64 := .mk (by kernel_rfl)
theorem pr_int64 : primT Tryz.prog 2 (.int .i64) := ⟨in_int64, rfl, sz_int64⟩
theorem sz_interface : (Tryz.prog.info? 20).map (·.size) = some 1 := by kernel_rfl
theorem zr_interface : ZrT Tryz.prog 20 .nilIface := .mk (by kernel_rfl)
theorem one_interface : OneT Tryz.prog 20 := .mk (by kernel_rfl)
theorem sz_string : (Tryz.prog.info? 9).map (·.size) = some 1 := by kernel_rfl
theorem zr_string : ZrT Tryz.prog 9 (.string ByteArray.empty) := .mk (by kernel_rfl)
theorem one_string : OneT Tryz.prog 9 := .mk (by kernel_rfl)
theorem sz_uint : (Tryz.prog.info? 115).map (·.size) = some 1 := by kernel_rfl
theorem zr_uint : ZrT Tryz.prog 115 (.int .u64 0) := .mk (by kernel_rfl)
theorem one_uint : OneT Tryz.prog 115 := .mk (by kernel_rfl)
theorem in_uint : InT Tryz.prog 115 .u64 := .mk (by kernel_rfl)
theorem pr_uint : primT Tryz.prog 115 (.int .u64) := ⟨in_uint, rfl, sz_uint⟩
theorem sz_uint32 : (Tryz.prog.info? 187).map (·.size) = some 1 := by kernel_rfl
theorem zr_uint32 : ZrT Tryz.prog 187 (.int .u32 0) := .mk (by kernel_rfl)
theorem one_uint32 : OneT Tryz.prog 187 := .mk (by kernel_rfl)
theorem in_uint32 : InT Tryz.prog 187 .u32 := .mk (by kernel_rfl)
theorem pr_uint32 : primT Tryz.prog 187 (.int .u32) := ⟨in_uint32, rfl, sz_uint32⟩
theorem sz_uint64 : (Tryz.prog.info? 189).map (·.size) = some 1 := by kernel_rfl
theorem zr_uint64 : ZrT Tryz.prog 189 (.int .u64 0) := .mk (by kernel_rfl)
theorem one_uint64 : OneT Tryz.prog 189 := .mk (by kernel_rfl)
theorem in_uint64 : InT Tryz.prog 189 .u64 := .mk (by kernel_rfl)
theorem pr_uint64 : primT Tryz.prog 189 (.int .u64) := ⟨in_uint64, rfl, sz_uint64⟩
theorem sz_uint8 : (Tryz.prog.info? 5).map (·.size) = some 1 := by kernel_rfl
theorem zr_uint8 : ZrT Tryz.prog 5 (.int .u8 0) := .mk (by kernel_rfl)
theorem one_uint8 : OneT Tryz.prog 5 := .mk (by kernel_rfl)
theorem in_uint8 : InT Tryz.prog 5 .u8 := .mk (by kernel_rfl)
theorem pr_uint8 : primT Tryz.prog 5 (.int .u8) := ⟨in_uint8, rfl, sz_uint8⟩
theorem sz_A201_bool : (Tryz.prog.info? 82).map (·.size) = some 201 := by kernel_rfl
theorem zr_A201_bool : ZrT Tryz.prog 82 (.agg (Array.replicate 201 (.bool false))) := .mk (by kernel_rfl)
theorem ag_A201_bool : AggT Tryz.prog 82 201 := .mk (by kernel_rfl) (by kernel_rfl)
theorem ar_A201_bool : ArT Tryz.prog 82 201 4 1 := ⟨by kernel_rfl, by kernel_rfl⟩
theorem cm_A201_bool : CmA Tryz.prog 82 201 .bool := ⟨_, ar_A201_bool.1, pr_bool, by kernel_rfl⟩
theorem sz_A201_int : (Tryz.prog.info? 81).map (·.size) = some 201 := by kernel_rfl
theorem zr_A201_int : ZrT Tryz.prog 81 (.agg (Array.replicate 201 (.int .i64 0))) := .mk (by kernel_rfl)
theorem ag_A201_int : AggT Tryz.prog 81 201 := .mk (by kernel_rfl) (by kernel_rfl)
theorem ar_A201_int : ArT Tryz.prog 81 201 3 1 := ⟨by kernel_rfl, by kernel_rfl⟩
theorem cm_A201_int : CmA Tryz.prog 81 201 (.int .i64) := ⟨_, ar_A201_int.1, pr_int, by kernel_rfl⟩
theorem sz_A2_int : (Tryz.prog.info? 28).map (·.size) = some 2 := by kernel_rfl
theorem zr_A2_int : ZrT Tryz.prog 28 (.agg #[(.int .i64 0), (.int .i64 0)]) := .mk (by kernel_rfl)
theorem ag_A2_int : AggT Tryz.prog 28 2 := .mk (by kernel_rfl) (by kernel_rfl)
theorem ar_A2_int : ArT Tryz.prog 28 2 3 1 := ⟨by kernel_rfl, by kernel_rfl⟩
theorem cm_A2_int : CmA Tryz.prog 28 2 (.int .i64) := ⟨_, ar_A2_int.1, pr_int, by kernel_rfl⟩
theorem sz_api_Block : (Tryz.prog.info? 34).map (·.size) = some 5 := by kernel_rfl
theorem zr_api_Block : ZrT Tryz.prog 34 (.agg #[(.slice none 0 0), (.int .i64 0), (.int .i64 0), (.int .i64 0), (.int .i64 0)]) := .mk (by kernel_rfl)
theorem ag_api_Block : AggT Tryz.prog 34 5 := .mk (by kernel_rfl) (by kernel_rfl)
theorem bs_api_Block : stB Tryz.prog 34 = some [(0, 1), (1, 4)] := by kernel_rfl
theorem fd_api_Block_0 : FdT Tryz.prog 34 0 0 := ⟨0, by kernel_rfl⟩
theorem fv_api_Block_0 : fieldV Tryz.prog 34 0 = some (0, 32) := by kernel_rfl
theorem fd_api_Block_1 : FdT Tryz.prog 34 1 1 := ⟨3, by kernel_rfl⟩
theorem fv_api_Block_1 : fieldV Tryz.prog 34 1 = some (1, 30) := by kernel_rfl
theorem sz_api_Call : (Tryz.prog.info? 106).map (·.size) = some 2 := by kernel_rfl
theorem zr_api_Call : ZrT Tryz.prog 106 (.agg #[(.int .i64 0), (.slice none 0 0)]) := .mk (by kernel_rfl)
theorem ag_api_Call : AggT Tryz.prog 106 2 := .mk (by kernel_rfl) (by kernel_rfl)
theorem bs_api_Call : stB Tryz.prog 106 = some [(0, 1), (1, 1)] := by kernel_rfl
theorem fd_api_Call_0 : FdT Tryz.prog 106 0 0 := ⟨0, by kernel_rfl⟩
theorem fv_api_Call_0 : fieldV Tryz.prog 106 0 = some (0, 3) := by kernel_rfl
theorem fd_api_Call_1 : FdT Tryz.prog 106 1 1 := ⟨0, by kernel_rfl⟩
theorem fv_api_Call_1 : fieldV Tryz.prog 106 1 = some (1, 22) := by kernel_rfl
theorem sz_api_Edge : (Tryz.prog.info? 219).map (·.size) = some 3 := by kernel_rfl
theorem zr_api_Edge : ZrT Tryz.prog 219 (.agg #[(.int .i64 0), (.int .i64 0), (.int .i64 0)]) := .mk (by kernel_rfl)
theorem ag_api_Edge : AggT Tryz.prog 219 3 := .mk (by kernel_rfl) (by kernel_rfl)
theorem bs_api_Edge : stB Tryz.prog 219 = some [(0, 1), (1, 1), (2, 1)] := by kernel_rfl
theorem fd_api_Edge_0 : FdT Tryz.prog 219 0 0 := ⟨0, by kernel_rfl⟩
theorem fv_api_Edge_0 : fieldV Tryz.prog 219 0 = some (0, 3) := by kernel_rfl
theorem fd_api_Edge_1 : FdT Tryz.prog 219 1 1 := ⟨0, by kernel_rfl⟩
theorem fv_api_Edge_1 : fieldV Tryz.prog 219 1 = some (1, 3) := by kernel_rfl
theorem fd_api_Edge_2 : FdT Tryz.prog 219 2 2 := ⟨0, by kernel_rfl⟩
theorem fv_api_Edge_2 : fieldV Tryz.prog 219 2 = some (2, 3) := by kernel_rfl
theorem sz_api_Fact : (Tryz.prog.info? 215).map (·.size) = some 3 := by kernel_rfl
theorem zr_api_Fact : ZrT Tryz.prog 215 (.agg #[(.int .i64 0), (.bool false), (.int .i64 0)]) := .mk (by kernel_rfl)
theorem ag_api_Fact : AggT Tryz.prog 215 3 := .mk (by kernel_rfl) (by kernel_rfl)
theorem bs_api_Fact : stB Tryz.prog 215 = some [(0, 1), (1, 2)] := by kernel_rfl
theorem fd_api_Fact_0 : FdT Tryz.prog 215 0 0 := ⟨0, by kernel_rfl⟩
theorem fv_api_Fact_0 : fieldV Tryz.prog 215 0 = some (0, 3) := by kernel_rfl
theorem fd_api_Fact_1 : FdT Tryz.prog 215 1 1 := ⟨1, by kernel_rfl⟩
theorem fv_api_Fact_1 : fieldV Tryz.prog 215 1 = some (1, 211) := by kernel_rfl
theorem sz_api_Func : (Tryz.prog.info? 37).map (·.size) = some 2 := by kernel_rfl
theorem zr_api_Func : ZrT Tryz.prog 37 (.agg #[(.slice none 0 0), (.slice none 0 0)]) := .mk (by kernel_rfl)
theorem ag_api_Func : AggT Tryz.prog 37 2 := .mk (by kernel_rfl) (by kernel_rfl)
theorem bs_api_Func : stB Tryz.prog 37 = some [(0, 1), (1, 1)] := by kernel_rfl
theorem fd_api_Func_0 : FdT Tryz.prog 37 0 0 := ⟨0, by kernel_rfl⟩
theorem fv_api_Func_0 : fieldV Tryz.prog 37 0 = some (0, 22) := by kernel_rfl
theorem fd_api_Func_1 : FdT Tryz.prog 37 1 1 := ⟨0, by kernel_rfl⟩
theorem fv_api_Func_1 : fieldV Tryz.prog 37 1 = some (1, 35) := by kernel_rfl
theorem sz_api_Ins : (Tryz.prog.info? 25).map (·.size) = some 8 := by kernel_rfl
theorem zr_api_Ins : ZrT Tryz.prog 25 (.agg #[(.int .i64 0), (.int .i64 0), (.int .i64 0), (.int .i64 0), (.int .i64 0), (.int .i64 0), (.slice none 0 0), (.int .i64 0)]) := .mk (by kernel_rfl)
theorem ag_api_Ins : AggT Tryz.prog 25 8 := .mk (by kernel_rfl) (by kernel_rfl)
theorem bs_api_Ins : stB Tryz.prog 25 = some [(0, 1), (1, 1), (2, 1), (3, 1), (4, 1), (5, 1), (6, 1), (7, 1)] := by kernel_rfl
theorem fd_api_Ins_0 : FdT Tryz.prog 25 0 0 := ⟨0, by kernel_rfl⟩
theorem fv_api_Ins_0 : fieldV Tryz.prog 25 0 = some (0, 23) := by kernel_rfl
theorem fd_api_Ins_1 : FdT Tryz.prog 25 1 1 := ⟨0, by kernel_rfl⟩
theorem fv_api_Ins_1 : fieldV Tryz.prog 25 1 = some (1, 3) := by kernel_rfl
theorem fd_api_Ins_2 : FdT Tryz.prog 25 2 2 := ⟨0, by kernel_rfl⟩
theorem fv_api_Ins_2 : fieldV Tryz.prog 25 2 = some (2, 3) := by kernel_rfl
theorem fd_api_Ins_3 : FdT Tryz.prog 25 3 3 := ⟨0, by kernel_rfl⟩
theorem fv_api_Ins_3 : fieldV Tryz.prog 25 3 = some (3, 3) := by kernel_rfl
theorem fd_api_Ins_4 : FdT Tryz.prog 25 4 4 := ⟨0, by kernel_rfl⟩
theorem fv_api_Ins_4 : fieldV Tryz.prog 25 4 = some (4, 3) := by kernel_rfl
theorem fd_api_Ins_5 : FdT Tryz.prog 25 5 5 := ⟨0, by kernel_rfl⟩
theorem fv_api_Ins_5 : fieldV Tryz.prog 25 5 = some (5, 3) := by kernel_rfl
theorem fd_api_Ins_6 : FdT Tryz.prog 25 6 6 := ⟨0, by kernel_rfl⟩
theorem fv_api_Ins_6 : fieldV Tryz.prog 25 6 = some (6, 22) := by kernel_rfl
theorem fd_api_Ins_7 : FdT Tryz.prog 25 7 7 := ⟨0, by kernel_rfl⟩
theorem fv_api_Ins_7 : fieldV Tryz.prog 25 7 = some (7, 3) := by kernel_rfl
theorem sz_api_Loc : (Tryz.prog.info? 211).map (·.size) = some 2 := by kernel_rfl
theorem zr_api_Loc : ZrT Tryz.prog 211 (.agg #[(.bool false), (.int .i64 0)]) := .mk (by kernel_rfl)
theorem ag_api_Loc : AggT Tryz.prog 211 2 := .mk (by kernel_rfl) (by kernel_rfl)
theorem bs_api_Loc : stB Tryz.prog 211 = some [(0, 1), (1, 1)] := by kernel_rfl
theorem fd_api_Loc_0 : FdT Tryz.prog 211 0 0 := ⟨0, by kernel_rfl⟩
theorem fv_api_Loc_0 : fieldV Tryz.prog 211 0 = some (0, 4) := by kernel_rfl
theorem fd_api_Loc_1 : FdT Tryz.prog 211 1 1 := ⟨0, by kernel_rfl⟩
theorem fv_api_Loc_1 : fieldV Tryz.prog 211 1 = some (1, 3) := by kernel_rfl
theorem sz_api_Machine : (Tryz.prog.info? 206).map (·.size) = some 4 := by kernel_rfl
theorem zr_api_Machine : ZrT Tryz.prog 206 (.agg #[(.int .i64 0), (.slice none 0 0), (.int .i64 0), (.slice none 0 0)]) := .mk (by kernel_rfl)
theorem ag_api_Machine : AggT Tryz.prog 206 4 := .mk (by kernel_rfl) (by kernel_rfl)
theorem bs_api_Machine : stB Tryz.prog 206 = some [(0, 1), (1, 1), (2, 1), (3, 1)] := by kernel_rfl
theorem fd_api_Machine_0 : FdT Tryz.prog 206 0 0 := ⟨0, by kernel_rfl⟩
theorem fv_api_Machine_0 : fieldV Tryz.prog 206 0 = some (0, 3) := by kernel_rfl
theorem fd_api_Machine_1 : FdT Tryz.prog 206 1 1 := ⟨0, by kernel_rfl⟩
theorem fv_api_Machine_1 : fieldV Tryz.prog 206 1 = some (1, 22) := by kernel_rfl
theorem fd_api_Machine_2 : FdT Tryz.prog 206 2 2 := ⟨0, by kernel_rfl⟩
theorem fv_api_Machine_2 : fieldV Tryz.prog 206 2 = some (2, 3) := by kernel_rfl
theorem fd_api_Machine_3 : FdT Tryz.prog 206 3 3 := ⟨0, by kernel_rfl⟩
theorem fv_api_Machine_3 : fieldV Tryz.prog 206 3 = some (3, 22) := by kernel_rfl
theorem sz_api_Target : (Tryz.prog.info? 201).map (·.size) = some 2 := by kernel_rfl
theorem zr_api_Target : ZrT Tryz.prog 201 (.agg #[(.int .i64 0), (.slice none 0 0)]) := .mk (by kernel_rfl)
theorem ag_api_Target : AggT Tryz.prog 201 2 := .mk (by kernel_rfl) (by kernel_rfl)
theorem bs_api_Target : stB Tryz.prog 201 = some [(0, 1), (1, 1)] := by kernel_rfl
theorem fd_api_Target_0 : FdT Tryz.prog 201 0 0 := ⟨0, by kernel_rfl⟩
theorem fv_api_Target_0 : fieldV Tryz.prog 201 0 = some (0, 3) := by kernel_rfl
theorem fd_api_Target_1 : FdT Tryz.prog 201 1 1 := ⟨0, by kernel_rfl⟩
theorem fv_api_Target_1 : fieldV Tryz.prog 201 1 = some (1, 35) := by kernel_rfl
theorem sz_api_Term : (Tryz.prog.info? 30).map (·.size) = some 4 := by kernel_rfl
theorem zr_api_Term : ZrT Tryz.prog 30 (.agg #[(.int .i64 0), (.int .i64 0), (.int .i64 0), (.int .i64 0)]) := .mk (by kernel_rfl)
theorem ag_api_Term : AggT Tryz.prog 30 4 := .mk (by kernel_rfl) (by kernel_rfl)
theorem bs_api_Term : stB Tryz.prog 30 = some [(0, 1), (1, 1), (2, 2)] := by kernel_rfl
theorem fd_api_Term_0 : FdT Tryz.prog 30 0 0 := ⟨0, by kernel_rfl⟩
theorem fv_api_Term_0 : fieldV Tryz.prog 30 0 = some (0, 27) := by kernel_rfl
theorem fd_api_Term_1 : FdT Tryz.prog 30 1 1 := ⟨0, by kernel_rfl⟩
theorem fv_api_Term_1 : fieldV Tryz.prog 30 1 = some (1, 3) := by kernel_rfl
theorem fd_api_Term_2 : FdT Tryz.prog 30 2 2 := ⟨1, by kernel_rfl⟩
theorem fv_api_Term_2 : fieldV Tryz.prog 30 2 = some (2, 28) := by kernel_rfl
theorem sz_api_Tile : (Tryz.prog.info? 224).map (·.size) = some 3 := by kernel_rfl
theorem zr_api_Tile : ZrT Tryz.prog 224 (.agg #[(.int .i64 0), (.int .i64 0), (.slice none 0 0)]) := .mk (by kernel_rfl)
theorem ag_api_Tile : AggT Tryz.prog 224 3 := .mk (by kernel_rfl) (by kernel_rfl)
theorem bs_api_Tile : stB Tryz.prog 224 = some [(0, 1), (1, 1), (2, 1)] := by kernel_rfl
theorem fd_api_Tile_0 : FdT Tryz.prog 224 0 0 := ⟨0, by kernel_rfl⟩
theorem fv_api_Tile_0 : fieldV Tryz.prog 224 0 = some (0, 222) := by kernel_rfl
theorem fd_api_Tile_1 : FdT Tryz.prog 224 1 1 := ⟨0, by kernel_rfl⟩
theorem fv_api_Tile_1 : fieldV Tryz.prog 224 1 = some (1, 3) := by kernel_rfl
theorem fd_api_Tile_2 : FdT Tryz.prog 224 2 2 := ⟨0, by kernel_rfl⟩
theorem fv_api_Tile_2 : fieldV Tryz.prog 224 2 = some (2, 22) := by kernel_rfl
theorem sz_ir_set : (Tryz.prog.info? 145).map (·.size) = some 201 := by kernel_rfl
theorem zr_ir_set : ZrT Tryz.prog 145 (.agg (Array.replicate 201 (.bool false))) := .mk (by kernel_rfl)
theorem ag_ir_set : AggT Tryz.prog 145 201 := .mk (by kernel_rfl) (by kernel_rfl)
theorem ar_ir_set : ArT Tryz.prog 145 201 4 1 := ⟨by kernel_rfl, by kernel_rfl⟩
theorem cm_ir_set : CmA Tryz.prog 145 201 .bool := ⟨_, ar_ir_set.1, pr_bool, by kernel_rfl⟩
theorem sz_ir_shape : (Tryz.prog.info? 110).map (·.size) = some 5 := by kernel_rfl
theorem zr_ir_shape : ZrT Tryz.prog 110 (.agg #[(.bool false), (.bool false), (.bool false), (.bool false), (.bool false)]) := .mk (by kernel_rfl)
theorem ag_ir_shape : AggT Tryz.prog 110 5 := .mk (by kernel_rfl) (by kernel_rfl)
theorem bs_ir_shape : stB Tryz.prog 110 = some [(0, 1), (1, 1), (2, 1), (3, 1), (4, 1)] := by kernel_rfl
theorem fd_ir_shape_0 : FdT Tryz.prog 110 0 0 := ⟨0, by kernel_rfl⟩
theorem fv_ir_shape_0 : fieldV Tryz.prog 110 0 = some (0, 4) := by kernel_rfl
theorem fd_ir_shape_1 : FdT Tryz.prog 110 1 1 := ⟨0, by kernel_rfl⟩
theorem fv_ir_shape_1 : fieldV Tryz.prog 110 1 = some (1, 4) := by kernel_rfl
theorem fd_ir_shape_2 : FdT Tryz.prog 110 2 2 := ⟨0, by kernel_rfl⟩
theorem fv_ir_shape_2 : fieldV Tryz.prog 110 2 = some (2, 4) := by kernel_rfl
theorem fd_ir_shape_3 : FdT Tryz.prog 110 3 3 := ⟨0, by kernel_rfl⟩
theorem fv_ir_shape_3 : fieldV Tryz.prog 110 3 = some (3, 4) := by kernel_rfl
theorem fd_ir_shape_4 : FdT Tryz.prog 110 4 4 := ⟨0, by kernel_rfl⟩
theorem fv_ir_shape_4 : fieldV Tryz.prog 110 4 = some (4, 4) := by kernel_rfl
theorem sz_kit_bag : (Tryz.prog.info? 139).map (·.size) = some 17 := by kernel_rfl
theorem zr_kit_bag : ZrT Tryz.prog 139 (.agg #[(.slice none 0 0), (.slice none 0 0), (.slice none 0 0), (.slice none 0 0), (.slice none 0 0), (.slice none 0 0), (.slice none 0 0), (.slice none 0 0), (.slice none 0 0), (.slice none 0 0), (.slice none 0 0), (.slice none 0 0), (.slice none 0 0), (.slice none 0 0), (.slice none 0 0), (.slice none 0 0), (.slice none 0 0)]) := .mk (by kernel_rfl)
theorem ag_kit_bag : AggT Tryz.prog 139 17 := .mk (by kernel_rfl) (by kernel_rfl)
theorem bs_kit_bag : stB Tryz.prog 139 = some [(0, 1), (1, 1), (2, 1), (3, 1), (4, 1), (5, 1), (6, 1), (7, 1), (8, 1), (9, 1), (10, 1), (11, 1), (12, 1), (13, 1), (14, 1), (15, 1), (16, 1)] := by kernel_rfl
theorem fd_kit_bag_0 : FdT Tryz.prog 139 0 0 := ⟨0, by kernel_rfl⟩
theorem fv_kit_bag_0 : fieldV Tryz.prog 139 0 = some (0, 122) := by kernel_rfl
theorem fd_kit_bag_1 : FdT Tryz.prog 139 1 1 := ⟨0, by kernel_rfl⟩
theorem fv_kit_bag_1 : fieldV Tryz.prog 139 1 = some (1, 123) := by kernel_rfl
theorem fd_kit_bag_2 : FdT Tryz.prog 139 2 2 := ⟨0, by kernel_rfl⟩
theorem fv_kit_bag_2 : fieldV Tryz.prog 139 2 = some (2, 72) := by kernel_rfl
theorem fd_kit_bag_3 : FdT Tryz.prog 139 3 3 := ⟨0, by kernel_rfl⟩
theorem fv_kit_bag_3 : fieldV Tryz.prog 139 3 = some (3, 124) := by kernel_rfl
theorem fd_kit_bag_4 : FdT Tryz.prog 139 4 4 := ⟨0, by kernel_rfl⟩
theorem fv_kit_bag_4 : fieldV Tryz.prog 139 4 = some (4, 125) := by kernel_rfl
theorem fd_kit_bag_5 : FdT Tryz.prog 139 5 5 := ⟨0, by kernel_rfl⟩
theorem fv_kit_bag_5 : fieldV Tryz.prog 139 5 = some (5, 126) := by kernel_rfl
theorem fd_kit_bag_6 : FdT Tryz.prog 139 6 6 := ⟨0, by kernel_rfl⟩
theorem fv_kit_bag_6 : fieldV Tryz.prog 139 6 = some (6, 127) := by kernel_rfl
theorem fd_kit_bag_7 : FdT Tryz.prog 139 7 7 := ⟨0, by kernel_rfl⟩
theorem fv_kit_bag_7 : fieldV Tryz.prog 139 7 = some (7, 128) := by kernel_rfl
theorem fd_kit_bag_8 : FdT Tryz.prog 139 8 8 := ⟨0, by kernel_rfl⟩
theorem fv_kit_bag_8 : fieldV Tryz.prog 139 8 = some (8, 129) := by kernel_rfl
theorem fd_kit_bag_9 : FdT Tryz.prog 139 9 9 := ⟨0, by kernel_rfl⟩
theorem fv_kit_bag_9 : fieldV Tryz.prog 139 9 = some (9, 130) := by kernel_rfl
theorem fd_kit_bag_10 : FdT Tryz.prog 139 10 10 := ⟨0, by kernel_rfl⟩
theorem fv_kit_bag_10 : fieldV Tryz.prog 139 10 = some (10, 131) := by kernel_rfl
theorem fd_kit_bag_11 : FdT Tryz.prog 139 11 11 := ⟨0, by kernel_rfl⟩
theorem fv_kit_bag_11 : fieldV Tryz.prog 139 11 = some (11, 132) := by kernel_rfl
theorem fd_kit_bag_12 : FdT Tryz.prog 139 12 12 := ⟨0, by kernel_rfl⟩
theorem fv_kit_bag_12 : fieldV Tryz.prog 139 12 = some (12, 133) := by kernel_rfl
theorem fd_kit_bag_13 : FdT Tryz.prog 139 13 13 := ⟨0, by kernel_rfl⟩
theorem fv_kit_bag_13 : fieldV Tryz.prog 139 13 = some (13, 134) := by kernel_rfl
theorem fd_kit_bag_14 : FdT Tryz.prog 139 14 14 := ⟨0, by kernel_rfl⟩
theorem fv_kit_bag_14 : fieldV Tryz.prog 139 14 = some (14, 135) := by kernel_rfl
theorem fd_kit_bag_15 : FdT Tryz.prog 139 15 15 := ⟨0, by kernel_rfl⟩
theorem fv_kit_bag_15 : fieldV Tryz.prog 139 15 = some (15, 136) := by kernel_rfl
theorem fd_kit_bag_16 : FdT Tryz.prog 139 16 16 := ⟨0, by kernel_rfl⟩
theorem fv_kit_bag_16 : fieldV Tryz.prog 139 16 = some (16, 137) := by kernel_rfl
theorem sz_map_int_int : (Tryz.prog.info? 86).map (·.size) = some 1 := by kernel_rfl
theorem zr_map_int_int : ZrT Tryz.prog 86 (.map none) := .mk (by kernel_rfl)
theorem one_map_int_int : OneT Tryz.prog 86 := .mk (by kernel_rfl)
theorem mt_map_int_int : MpT Tryz.prog 86 (.int .i64 0) := ⟨3, 3, by kernel_rfl, by kernel_rfl, zr_int⟩
theorem mp_map_int_int : Tryz.prog.underlying 86 = some (.map 3 3) := by kernel_rfl
theorem sz_ref08_Run : (Tryz.prog.info? 84).map (·.size) = some 412 := by kernel_rfl
theorem zr_ref08_Run : ZrT Tryz.prog 84 (.agg #[(.slice none 0 0), (.slice none 0 0), (.int .i64 0), (.int .i64 0), (.int .i64 0), (.int .i64 0), (.int .i64 0), (.int .i64 0), (.int .i64 0), (.int .i64 0), (.int .i64 0), (.int .i64 0), (.int .i64 0), (.int .i64 0), (.int .i64 0), (.int .i64 0), (.int .i64 0), (.int .i64 0), (.int .i64 0), (.int .i64 0), (.int .i64 0), (.int .i64 0), (.int .i64 0), (.int .i64 0), (.int .i64 0), (.int .i64 0), (.int .i64 0), (.int .i64 0), (.int .i64 0), (.int .i64 0), (.int .i64 0), (.int .i64 0), (.int .i64 0), (.int .i64 0), (.int .i64 0), (.int .i64 0), (.int .i64 0), (.int .i64 0), (.int .i64 0), (.int .i64 0), (.int .i64 0), (.int .i64 0), (.int .i64 0), (.int .i64 0), (.int .i64 0), (.int .i64 0), (.int .i64 0), (.int .i64 0), (.int .i64 0), (.int .i64 0), (.int .i64 0), (.int .i64 0), (.int .i64 0), (.int .i64 0), (.int .i64 0), (.int .i64 0), (.int .i64 0), (.int .i64 0), (.int .i64 0), (.int .i64 0), (.int .i64 0), (.int .i64 0), (.int .i64 0), (.int .i64 0), (.int .i64 0), (.int .i64 0), (.int .i64 0), (.int .i64 0), (.int .i64 0), (.int .i64 0), (.int .i64 0), (.int .i64 0), (.int .i64 0), (.int .i64 0), (.int .i64 0), (.int .i64 0), (.int .i64 0), (.int .i64 0), (.int .i64 0), (.int .i64 0), (.int .i64 0), (.int .i64 0), (.int .i64 0), (.int .i64 0), (.int .i64 0), (.int .i64 0), (.int .i64 0), (.int .i64 0), (.int .i64 0), (.int .i64 0), (.int .i64 0), (.int .i64 0), (.int .i64 0), (.int .i64 0), (.int .i64 0), (.int .i64 0), (.int .i64 0), (.int .i64 0), (.int .i64 0), (.int .i64 0), (.int .i64 0), (.int .i64 0), (.int .i64 0), (.int .i64 0), (.int .i64 0), (.int .i64 0), (.int .i64 0), (.int .i64 0), (.int .i64 0), (.int .i64 0), (.int .i64 0), (.int .i64 0), (.int .i64 0), (.int .i64 0), (.int .i64 0), (.int .i64 0), (.int .i64 0), (.int .i64 0), (.int .i64 0), (.int .i64 0), (.int .i64 0), (.int .i64 0), (.int .i64 0), (.int .i64 0), (.int .i64 0), (.int .i64 0), (.int .i64 0), (.int .i64 0), (.int .i64 0), (.int .i64 0), (.int .i64 0), (.int .i64 0), (.int .i64 0), (.int .i64 0), (.int .i64 0), (.int .i64 0), (.int .i64 0), (.int .i64 0), (.int .i64 0), (.int .i64 0), (.int .i64 0), (.int .i64 0), (.int .i64 0), (.int .i64 0), (.int .i64 0), (.int .i64 0), (.int .i64 0), (.int .i64 0), (.int .i64 0), (.int .i64 0), (.int .i64 0), (.int .i64 0), (.int .i64 0), (.int .i64 0), (.int .i64 0), (.int .i64 0), (.int .i64 0), (.int .i64 0), (.int .i64 0), (.int .i64 0), (.int .i64 0), (.int .i64 0), (.int .i64 0), (.int .i64 0), (.int .i64 0), (.int .i64 0), (.int .i64 0), (.int .i64 0), (.int .i64 0), (.int .i64 0), (.int .i64 0), (.int .i64 0), (.int .i64 0), (.int .i64 0), (.int .i64 0), (.int .i64 0), (.int .i64 0), (.int .i64 0), (.int .i64 0), (.int .i64 0), (.int .i64 0), (.int .i64 0), (.int .i64 0), (.int .i64 0), (.int .i64 0), (.int .i64 0), (.int .i64 0), (.int .i64 0), (.int .i64 0), (.int .i64 0), (.int .i64 0), (.int .i64 0), (.int .i64 0), (.int .i64 0), (.int .i64 0), (.int .i64 0), (.int .i64 0), (.int .i64 0), (.int .i64 0), (.int .i64 0), (.int .i64 0), (.int .i64 0), (.int .i64 0), (.bool false), (.bool false), (.bool false), (.bool false), (.bool false), (.bool false), (.bool false), (.bool false), (.bool false), (.bool false), (.bool false), (.bool false), (.bool false), (.bool false), (.bool false), (.bool false), (.bool false), (.bool false), (.bool false), (.bool false), (.bool false), (.bool false), (.bool false), (.bool false), (.bool false), (.bool false), (.bool false), (.bool false), (.bool false), (.bool false), (.bool false), (.bool false), (.bool false), (.bool false), (.bool false), (.bool false), (.bool false), (.bool false), (.bool false), (.bool false), (.bool false), (.bool false), (.bool false), (.bool false), (.bool false), (.bool false), (.bool false), (.bool false), (.bool false), (.bool false), (.bool false), (.bool false), (.bool false), (.bool false), (.bool false), (.bool false), (.bool false), (.bool false), (.bool false), (.bool false), (.bool false), (.bool false), (.bool false), (.bool false), (.bool false), (.bool false), (.bool false), (.bool false), (.bool false), (.bool false), (.bool false), (.bool false), (.bool false), (.bool false), (.bool false), (.bool false), (.bool false), (.bool false), (.bool false), (.bool false), (.bool false), (.bool false), (.bool false), (.bool false), (.bool false), (.bool false), (.bool false), (.bool false), (.bool false), (.bool false), (.bool false), (.bool false), (.bool false), (.bool false), (.bool false), (.bool false), (.bool false), (.bool false), (.bool false), (.bool false), (.bool false), (.bool false), (.bool false), (.bool false), (.bool false), (.bool false), (.bool false), (.bool false), (.bool false), (.bool false), (.bool false), (.bool false), (.bool false), (.bool false), (.bool false), (.bool false), (.bool false), (.bool false), (.bool false), (.bool false), (.bool false), (.bool false), (.bool false), (.bool false), (.bool false), (.bool false), (.bool false), (.bool false), (.bool false), (.bool false), (.bool false), (.bool false), (.bool false), (.bool false), (.bool false), (.bool false), (.bool false), (.bool false), (.bool false), (.bool false), (.bool false), (.bool false), (.bool false), (.bool false), (.bool false), (.bool false), (.bool false), (.bool false), (.bool false), (.bool false), (.bool false), (.bool false), (.bool false), (.bool false), (.bool false), (.bool false), (.bool false), (.bool false), (.bool false), (.bool false), (.bool false), (.bool false), (.bool false), (.bool false), (.bool false), (.bool false), (.bool false), (.bool false), (.bool false), (.bool false), (.bool false), (.bool false), (.bool false), (.bool false), (.bool false), (.bool false), (.bool false), (.bool false), (.bool false), (.bool false), (.bool false), (.bool false), (.bool false), (.bool false), (.bool false), (.bool false), (.bool false), (.bool false), (.bool false), (.bool false), (.bool false), (.bool false), (.bool false), (.bool false), (.bool false), (.bool false), (.bool false), (.bool false), (.bool false), (.bool false), (.bool false), (.slice none 0 0), (.slice none 0 0), (.slice none 0 0), (.int .i64 0), (.int .i64 0), (.int .i64 0), (.int .i64 0), (.int .i64 0)]) := .mk (by kernel_rfl)
theorem ag_ref08_Run : AggT Tryz.prog 84 412 := .mk (by kernel_rfl) (by kernel_rfl)
theorem bs_ref08_Run : stB Tryz.prog 84 = some [(0, 2), (2, 201), (203, 201), (404, 1), (405, 1), (406, 1), (407, 1), (408, 1), (409, 1), (410, 1), (411, 1)] := by kernel_rfl
theorem fd_ref08_Run_0 : FdT Tryz.prog 84 0 0 := ⟨1, by kernel_rfl⟩
theorem fv_ref08_Run_0 : fieldV Tryz.prog 84 0 = some (0, 37) := by kernel_rfl
theorem fd_ref08_Run_1 : FdT Tryz.prog 84 1 2 := ⟨200, by kernel_rfl⟩
theorem fv_ref08_Run_1 : fieldV Tryz.prog 84 1 = some (2, 81) := by kernel_rfl
theorem fd_ref08_Run_2 : FdT Tryz.prog 84 2 203 := ⟨200, by kernel_rfl⟩
theorem fv_ref08_Run_2 : fieldV Tryz.prog 84 2 = some (203, 82) := by kernel_rfl
theorem fd_ref08_Run_3 : FdT Tryz.prog 84 3 404 := ⟨0, by kernel_rfl⟩
theorem fv_ref08_Run_3 : fieldV Tryz.prog 84 3 = some (404, 22) := by kernel_rfl
theorem fd_ref08_Run_4 : FdT Tryz.prog 84 4 405 := ⟨0, by kernel_rfl⟩
theorem fv_ref08_Run_4 : fieldV Tryz.prog 84 4 = some (405, 22) := by kernel_rfl
theorem fd_ref08_Run_5 : FdT Tryz.prog 84 5 406 := ⟨0, by kernel_rfl⟩
theorem fv_ref08_Run_5 : fieldV Tryz.prog 84 5 = some (406, 44) := by kernel_rfl
theorem fd_ref08_Run_6 : FdT Tryz.prog 84 6 407 := ⟨0, by kernel_rfl⟩
theorem fv_ref08_Run_6 : fieldV Tryz.prog 84 6 = some (407, 3) := by kernel_rfl
theorem fd_ref08_Run_7 : FdT Tryz.prog 84 7 408 := ⟨0, by kernel_rfl⟩
theorem fv_ref08_Run_7 : fieldV Tryz.prog 84 7 = some (408, 3) := by kernel_rfl
theorem fd_ref08_Run_8 : FdT Tryz.prog 84 8 409 := ⟨0, by kernel_rfl⟩
theorem fv_ref08_Run_8 : fieldV Tryz.prog 84 8 = some (409, 3) := by kernel_rfl
theorem fd_ref08_Run_9 : FdT Tryz.prog 84 9 410 := ⟨0, by kernel_rfl⟩
theorem fv_ref08_Run_9 : fieldV Tryz.prog 84 9 = some (410, 43) := by kernel_rfl
theorem fd_ref08_Run_10 : FdT Tryz.prog 84 10 411 := ⟨0, by kernel_rfl⟩
theorem fv_ref08_Run_10 : fieldV Tryz.prog 84 10 = some (411, 3) := by kernel_rfl
theorem sz_run_Result : (Tryz.prog.info? 46).map (·.size) = some 5 := by kernel_rfl
theorem zr_run_Result : ZrT Tryz.prog 46 (.agg #[(.int .i64 0), (.int .i64 0), (.slice none 0 0), (.slice none 0 0), (.int .i64 0)]) := .mk (by kernel_rfl)
theorem ag_run_Result : AggT Tryz.prog 46 5 := .mk (by kernel_rfl) (by kernel_rfl)
theorem bs_run_Result : stB Tryz.prog 46 = some [(0, 1), (1, 1), (2, 1), (3, 1), (4, 1)] := by kernel_rfl
theorem fd_run_Result_0 : FdT Tryz.prog 46 0 0 := ⟨0, by kernel_rfl⟩
theorem fv_run_Result_0 : fieldV Tryz.prog 46 0 = some (0, 43) := by kernel_rfl
theorem fd_run_Result_1 : FdT Tryz.prog 46 1 1 := ⟨0, by kernel_rfl⟩
theorem fv_run_Result_1 : fieldV Tryz.prog 46 1 = some (1, 3) := by kernel_rfl
theorem fd_run_Result_2 : FdT Tryz.prog 46 2 2 := ⟨0, by kernel_rfl⟩
theorem fv_run_Result_2 : fieldV Tryz.prog 46 2 = some (2, 44) := by kernel_rfl
theorem fd_run_Result_3 : FdT Tryz.prog 46 3 3 := ⟨0, by kernel_rfl⟩
theorem fv_run_Result_3 : fieldV Tryz.prog 46 3 = some (3, 22) := by kernel_rfl
theorem fd_run_Result_4 : FdT Tryz.prog 46 4 4 := ⟨0, by kernel_rfl⟩
theorem fv_run_Result_4 : fieldV Tryz.prog 46 4 = some (4, 3) := by kernel_rfl
theorem sz_run_Run : (Tryz.prog.info? 93).map (·.size) = some 11 := by kernel_rfl
theorem zr_run_Run : ZrT Tryz.prog 93 (.agg #[(.map none), (.int .i64 0), (.int .i64 0), (.int .i64 0), (.int .i64 0), (.slice none 0 0), (.slice none 0 0), (.slice none 0 0), (.slice none 0 0), (.slice none 0 0), (.int .i64 0)]) := .mk (by kernel_rfl)
theorem ag_run_Run : AggT Tryz.prog 93 11 := .mk (by kernel_rfl) (by kernel_rfl)
theorem bs_run_Run : stB Tryz.prog 93 = some [(0, 1), (1, 2), (3, 2), (5, 2), (7, 1), (8, 1), (9, 1), (10, 1)] := by kernel_rfl
theorem fd_run_Run_0 : FdT Tryz.prog 93 0 0 := ⟨0, by kernel_rfl⟩
theorem fv_run_Run_0 : fieldV Tryz.prog 93 0 = some (0, 87) := by kernel_rfl
theorem fd_run_Run_1 : FdT Tryz.prog 93 1 1 := ⟨1, by kernel_rfl⟩
theorem fv_run_Run_1 : fieldV Tryz.prog 93 1 = some (1, 89) := by kernel_rfl
theorem fd_run_Run_2 : FdT Tryz.prog 93 2 3 := ⟨1, by kernel_rfl⟩
theorem fv_run_Run_2 : fieldV Tryz.prog 93 2 = some (3, 91) := by kernel_rfl
theorem fd_run_Run_3 : FdT Tryz.prog 93 3 5 := ⟨1, by kernel_rfl⟩
theorem fv_run_Run_3 : fieldV Tryz.prog 93 3 = some (5, 37) := by kernel_rfl
theorem fd_run_Run_4 : FdT Tryz.prog 93 4 7 := ⟨0, by kernel_rfl⟩
theorem fv_run_Run_4 : fieldV Tryz.prog 93 4 = some (7, 22) := by kernel_rfl
theorem fd_run_Run_5 : FdT Tryz.prog 93 5 8 := ⟨0, by kernel_rfl⟩
theorem fv_run_Run_5 : fieldV Tryz.prog 93 5 = some (8, 22) := by kernel_rfl
theorem fd_run_Run_6 : FdT Tryz.prog 93 6 9 := ⟨0, by kernel_rfl⟩
theorem fv_run_Run_6 : fieldV Tryz.prog 93 6 = some (9, 44) := by kernel_rfl
theorem fd_run_Run_7 : FdT Tryz.prog 93 7 10 := ⟨0, by kernel_rfl⟩
theorem fv_run_Run_7 : fieldV Tryz.prog 93 7 = some (10, 3) := by kernel_rfl
theorem sz_run_done : (Tryz.prog.info? 91).map (·.size) = some 2 := by kernel_rfl
theorem zr_run_done : ZrT Tryz.prog 91 (.agg #[(.int .i64 0), (.int .i64 0)]) := .mk (by kernel_rfl)
theorem ag_run_done : AggT Tryz.prog 91 2 := .mk (by kernel_rfl) (by kernel_rfl)
theorem bs_run_done : stB Tryz.prog 91 = some [(0, 1), (1, 1)] := by kernel_rfl
theorem fd_run_done_0 : FdT Tryz.prog 91 0 0 := ⟨0, by kernel_rfl⟩
theorem fv_run_done_0 : fieldV Tryz.prog 91 0 = some (0, 43) := by kernel_rfl
theorem fd_run_done_1 : FdT Tryz.prog 91 1 1 := ⟨0, by kernel_rfl⟩
theorem fv_run_done_1 : fieldV Tryz.prog 91 1 = some (1, 3) := by kernel_rfl
theorem sz_run_spot : (Tryz.prog.info? 89).map (·.size) = some 2 := by kernel_rfl
theorem zr_run_spot : ZrT Tryz.prog 89 (.agg #[(.int .i64 0), (.int .i64 0)]) := .mk (by kernel_rfl)
theorem ag_run_spot : AggT Tryz.prog 89 2 := .mk (by kernel_rfl) (by kernel_rfl)
theorem bs_run_spot : stB Tryz.prog 89 = some [(0, 1), (1, 1)] := by kernel_rfl
theorem fd_run_spot_0 : FdT Tryz.prog 89 0 0 := ⟨0, by kernel_rfl⟩
theorem fv_run_spot_0 : fieldV Tryz.prog 89 0 = some (0, 3) := by kernel_rfl
theorem fd_run_spot_1 : FdT Tryz.prog 89 1 1 := ⟨0, by kernel_rfl⟩
theorem fv_run_spot_1 : fieldV Tryz.prog 89 1 = some (1, 3) := by kernel_rfl
theorem sz_run_vars : (Tryz.prog.info? 87).map (·.size) = some 1 := by kernel_rfl
theorem zr_run_vars : ZrT Tryz.prog 87 (.map none) := .mk (by kernel_rfl)
theorem one_run_vars : OneT Tryz.prog 87 := .mk (by kernel_rfl)
theorem mt_run_vars : MpT Tryz.prog 87 (.int .i64 0) := ⟨3, 3, by kernel_rfl, by kernel_rfl, zr_int⟩
theorem mp_run_vars : Tryz.prog.underlying 87 = some (.map 3 3) := by kernel_rfl
theorem en_P_kit_bag_apart : Ent Tryz.prog 81 := Ent.mk Tryz.func81 rfl (by kernel_rfl)
theorem en_P_kit_bag_putInts : Ent Tryz.prog 80 := Ent.mk Tryz.func80 rfl (by kernel_rfl)
theorem en_P_ref08_Run_Step : Ent Tryz.prog 25 := Ent.mk Tryz.func25 rfl (by kernel_rfl)
theorem en_P_ref08_Run_ins : Ent Tryz.prog 64 := Ent.mk Tryz.func64 rfl (by kernel_rfl)
theorem en_P_ref08_Run_place : Ent Tryz.prog 103 := Ent.mk Tryz.func103 rfl (by kernel_rfl)
theorem en_P_ref08_Run_set : Ent Tryz.prog 58 := Ent.mk Tryz.func58 rfl (by kernel_rfl)
theorem en_P_ref08_Run_term : Ent Tryz.prog 65 := Ent.mk Tryz.func65 rfl (by kernel_rfl)
theorem en_P_ref08_Run_trap : Ent Tryz.prog 104 := Ent.mk Tryz.func104 rfl (by kernel_rfl)
theorem en_P_ir_set_has : Ent Tryz.prog 156 := Ent.mk Tryz.func156 rfl (by kernel_rfl)
theorem en_P_ir_set_has_1 : Ent Tryz.prog 160 := Ent.mk Tryz.func160 rfl (by kernel_rfl)
theorem en_P_run_Run_At : Ent Tryz.prog 66 := Ent.mk Tryz.func66 rfl (by kernel_rfl)
theorem en_P_run_Run_Result : Ent Tryz.prog 27 := Ent.mk Tryz.func27 rfl (by kernel_rfl)
theorem en_P_run_Run_Step : Ent Tryz.prog 24 := Ent.mk Tryz.func24 rfl (by kernel_rfl)
theorem en_P_run_Run_Var : Ent Tryz.prog 67 := Ent.mk Tryz.func67 rfl (by kernel_rfl)
theorem en_P_run_Run_call : Ent Tryz.prog 100 := Ent.mk Tryz.func100 rfl (by kernel_rfl)
theorem en_P_run_Run_ins : Ent Tryz.prog 62 := Ent.mk Tryz.func62 rfl (by kernel_rfl)
theorem en_P_run_Run_term : Ent Tryz.prog 63 := Ent.mk Tryz.func63 rfl (by kernel_rfl)
theorem en_P_run_Run_word : Ent Tryz.prog 101 := Ent.mk Tryz.func101 rfl (by kernel_rfl)
theorem en_ir_set_meet : Ent Tryz.prog 131 := Ent.mk Tryz.func131 rfl (by kernel_rfl)
theorem en_ir_set_past : Ent Tryz.prog 132 := Ent.mk Tryz.func132 rfl (by kernel_rfl)
theorem en_run_vars_all : Ent Tryz.prog 137 := Ent.mk Tryz.func137 rfl (by kernel_rfl)
theorem en_kit_ApartInts : Ent Tryz.prog 43 := Ent.mk Tryz.func43 rfl (by kernel_rfl)
theorem en_kit_BlocksOf : Ent Tryz.prog 52 := Ent.mk Tryz.func52 rfl (by kernel_rfl)
theorem en_kit_FuncOf : Ent Tryz.prog 11 := Ent.mk Tryz.func11 rfl (by kernel_rfl)
theorem en_kit_KeptBlock : Ent Tryz.prog 97 := Ent.mk Tryz.func97 rfl (by kernel_rfl)
theorem en_kit_KeptBlocks : Ent Tryz.prog 60 := Ent.mk Tryz.func60 rfl (by kernel_rfl)
theorem en_kit_KeptFunc : Ent Tryz.prog 20 := Ent.mk Tryz.func20 rfl (by kernel_rfl)
theorem en_kit_KeptIns : Ent Tryz.prog 158 := Ent.mk Tryz.func158 rfl (by kernel_rfl)
theorem en_kit_KeptInts : Ent Tryz.prog 21 := Ent.mk Tryz.func21 rfl (by kernel_rfl)
theorem en_kit_KeptRow : Ent Tryz.prog 134 := Ent.mk Tryz.func134 rfl (by kernel_rfl)
theorem en_kit_LentBlock : Ent Tryz.prog 92 := Ent.mk Tryz.func92 rfl (by kernel_rfl)
theorem en_kit_LentBlocks : Ent Tryz.prog 53 := Ent.mk Tryz.func53 rfl (by kernel_rfl)
theorem en_kit_LentFunc : Ent Tryz.prog 13 := Ent.mk Tryz.func13 rfl (by kernel_rfl)
theorem en_kit_LentIns : Ent Tryz.prog 157 := Ent.mk Tryz.func157 rfl (by kernel_rfl)
theorem en_kit_LentInts : Ent Tryz.prog 14 := Ent.mk Tryz.func14 rfl (by kernel_rfl)
theorem en_kit_LentRow : Ent Tryz.prog 133 := Ent.mk Tryz.func133 rfl (by kernel_rfl)
theorem en_kit_OverBlock : Ent Tryz.prog 99 := Ent.mk Tryz.func99 rfl (by kernel_rfl)
theorem en_kit_OverBlocks : Ent Tryz.prog 61 := Ent.mk Tryz.func61 rfl (by kernel_rfl)
theorem en_kit_OverFunc : Ent Tryz.prog 22 := Ent.mk Tryz.func22 rfl (by kernel_rfl)
theorem en_kit_OverIns : Ent Tryz.prog 159 := Ent.mk Tryz.func159 rfl (by kernel_rfl)
theorem en_kit_OverInts : Ent Tryz.prog 23 := Ent.mk Tryz.func23 rfl (by kernel_rfl)
theorem en_kit_OverRow : Ent Tryz.prog 136 := Ent.mk Tryz.func136 rfl (by kernel_rfl)
theorem en_kit_SameBlock : Ent Tryz.prog 98 := Ent.mk Tryz.func98 rfl (by kernel_rfl)
theorem en_kit_SameBlocks : Ent Tryz.prog 96 := Ent.mk Tryz.func96 rfl (by kernel_rfl)
theorem en_kit_SameCall : Ent Tryz.prog 153 := Ent.mk Tryz.func153 rfl (by kernel_rfl)
theorem en_kit_SameFunc : Ent Tryz.prog 59 := Ent.mk Tryz.func59 rfl (by kernel_rfl)
theorem en_kit_SameIns : Ent Tryz.prog 141 := Ent.mk Tryz.func141 rfl (by kernel_rfl)
theorem en_kit_SameInts : Ent Tryz.prog 37 := Ent.mk Tryz.func37 rfl (by kernel_rfl)
theorem en_kit_SameMachine : Ent Tryz.prog 146 := Ent.mk Tryz.func146 rfl (by kernel_rfl)
theorem en_kit_SameRow : Ent Tryz.prog 135 := Ent.mk Tryz.func135 rfl (by kernel_rfl)
theorem en_kit_SameTarget : Ent Tryz.prog 144 := Ent.mk Tryz.func144 rfl (by kernel_rfl)
theorem en_kit_SameTile : Ent Tryz.prog 151 := Ent.mk Tryz.func151 rfl (by kernel_rfl)
theorem en_kit_flatBlocks : Ent Tryz.prog 117 := Ent.mk Tryz.func117 rfl (by kernel_rfl)
theorem en_kit_flatBytes : Ent Tryz.prog 114 := Ent.mk Tryz.func114 rfl (by kernel_rfl)
theorem en_kit_flatCalls : Ent Tryz.prog 125 := Ent.mk Tryz.func125 rfl (by kernel_rfl)
theorem en_kit_flatEdges : Ent Tryz.prog 123 := Ent.mk Tryz.func123 rfl (by kernel_rfl)
theorem en_kit_flatFacts : Ent Tryz.prog 122 := Ent.mk Tryz.func122 rfl (by kernel_rfl)
theorem en_kit_flatFuncs : Ent Tryz.prog 118 := Ent.mk Tryz.func118 rfl (by kernel_rfl)
theorem en_kit_flatInts : Ent Tryz.prog 111 := Ent.mk Tryz.func111 rfl (by kernel_rfl)
theorem en_kit_flatLimbs : Ent Tryz.prog 109 := Ent.mk Tryz.func109 rfl (by kernel_rfl)
theorem en_kit_flatLocs : Ent Tryz.prog 121 := Ent.mk Tryz.func121 rfl (by kernel_rfl)
theorem en_kit_flatLongs : Ent Tryz.prog 112 := Ent.mk Tryz.func112 rfl (by kernel_rfl)
theorem en_kit_flatMachines : Ent Tryz.prog 120 := Ent.mk Tryz.func120 rfl (by kernel_rfl)
theorem en_kit_flatRow : Ent Tryz.prog 116 := Ent.mk Tryz.func116 rfl (by kernel_rfl)
theorem en_kit_flatTargets : Ent Tryz.prog 119 := Ent.mk Tryz.func119 rfl (by kernel_rfl)
theorem en_kit_flatTexts : Ent Tryz.prog 113 := Ent.mk Tryz.func113 rfl (by kernel_rfl)
theorem en_kit_flatTiles : Ent Tryz.prog 124 := Ent.mk Tryz.func124 rfl (by kernel_rfl)
theorem en_kit_flatTruths : Ent Tryz.prog 115 := Ent.mk Tryz.func115 rfl (by kernel_rfl)
theorem en_kit_flatWords : Ent Tryz.prog 110 := Ent.mk Tryz.func110 rfl (by kernel_rfl)
theorem en_kit_mark : Ent Tryz.prog 54 := Ent.mk Tryz.func54 rfl (by kernel_rfl)
theorem en_kit_markBlock : Ent Tryz.prog 93 := Ent.mk Tryz.func93 rfl (by kernel_rfl)
theorem en_kit_markByte : Ent Tryz.prog 139 := Ent.mk Tryz.func139 rfl (by kernel_rfl)
theorem en_kit_markCall : Ent Tryz.prog 152 := Ent.mk Tryz.func152 rfl (by kernel_rfl)
theorem en_kit_markEdge : Ent Tryz.prog 149 := Ent.mk Tryz.func149 rfl (by kernel_rfl)
theorem en_kit_markFact : Ent Tryz.prog 148 := Ent.mk Tryz.func148 rfl (by kernel_rfl)
theorem en_kit_markFunc : Ent Tryz.prog 142 := Ent.mk Tryz.func142 rfl (by kernel_rfl)
theorem en_kit_markIns : Ent Tryz.prog 140 := Ent.mk Tryz.func140 rfl (by kernel_rfl)
theorem en_kit_markLoc : Ent Tryz.prog 147 := Ent.mk Tryz.func147 rfl (by kernel_rfl)
theorem en_kit_markMachine : Ent Tryz.prog 145 := Ent.mk Tryz.func145 rfl (by kernel_rfl)
theorem en_kit_markTarget : Ent Tryz.prog 143 := Ent.mk Tryz.func143 rfl (by kernel_rfl)
theorem en_kit_markText : Ent Tryz.prog 138 := Ent.mk Tryz.func138 rfl (by kernel_rfl)
theorem en_kit_markTile : Ent Tryz.prog 150 := Ent.mk Tryz.func150 rfl (by kernel_rfl)
theorem en_law03_IrEnds : Ent Tryz.prog 3 := Ent.mk Tryz.func3 rfl (by kernel_rfl)
theorem en_law03_IrParts : Ent Tryz.prog 6 := Ent.mk Tryz.func6 rfl (by kernel_rfl)
theorem en_law03_IrTells : Ent Tryz.prog 8 := Ent.mk Tryz.func8 rfl (by kernel_rfl)
theorem en_law03_awake : Ent Tryz.prog 10 := Ent.mk Tryz.func10 rfl (by kernel_rfl)
theorem en_law03_long : Ent Tryz.prog 9 := Ent.mk Tryz.func9 rfl (by kernel_rfl)
theorem en_law03_set : Ent Tryz.prog 7 := Ent.mk Tryz.func7 rfl (by kernel_rfl)
theorem en_law08_RunCalcs : Ent Tryz.prog 28 := Ent.mk Tryz.func28 rfl (by kernel_rfl)
theorem en_law08_RunDoes : Ent Tryz.prog 4 := Ent.mk Tryz.func4 rfl (by kernel_rfl)
theorem en_law08_RunEnds : Ent Tryz.prog 5 := Ent.mk Tryz.func5 rfl (by kernel_rfl)
theorem en_law08_awake : Ent Tryz.prog 12 := Ent.mk Tryz.func12 rfl (by kernel_rfl)
theorem en_law08_none : Ent Tryz.prog 29 := Ent.mk Tryz.func29 rfl (by kernel_rfl)
theorem en_law08_same : Ent Tryz.prog 17 := Ent.mk Tryz.func17 rfl (by kernel_rfl)
theorem en_law08_sameCalls : Ent Tryz.prog 55 := Ent.mk Tryz.func55 rfl (by kernel_rfl)
theorem en_law08_stands : Ent Tryz.prog 26 := Ent.mk Tryz.func26 rfl (by kernel_rfl)
theorem en_ref03_Defines : Ent Tryz.prog 40 := Ent.mk Tryz.func40 rfl (by kernel_rfl)
theorem en_ref03_IsIns : Ent Tryz.prog 34 := Ent.mk Tryz.func34 rfl (by kernel_rfl)
theorem en_ref03_IsTerm : Ent Tryz.prog 36 := Ent.mk Tryz.func36 rfl (by kernel_rfl)
theorem en_ref03_Most : Ent Tryz.prog 45 := Ent.mk Tryz.func45 rfl (by kernel_rfl)
theorem en_ref03_Needs : Ent Tryz.prog 41 := Ent.mk Tryz.func41 rfl (by kernel_rfl)
theorem en_ref03_Reads : Ent Tryz.prog 38 := Ent.mk Tryz.func38 rfl (by kernel_rfl)
theorem en_ref03_Right : Ent Tryz.prog 47 := Ent.mk Tryz.func47 rfl (by kernel_rfl)
theorem en_ref03_Size : Ent Tryz.prog 51 := Ent.mk Tryz.func51 rfl (by kernel_rfl)
theorem en_ref03_To : Ent Tryz.prog 42 := Ent.mk Tryz.func42 rfl (by kernel_rfl)
theorem en_ref03_Var : Ent Tryz.prog 78 := Ent.mk Tryz.func78 rfl (by kernel_rfl)
theorem en_ref03_Vars : Ent Tryz.prog 49 := Ent.mk Tryz.func49 rfl (by kernel_rfl)
theorem en_ref03_all : Ent Tryz.prog 91 := Ent.mk Tryz.func91 rfl (by kernel_rfl)
theorem en_ref03_has : Ent Tryz.prog 76 := Ent.mk Tryz.func76 rfl (by kernel_rfl)
theorem en_ref03_in : Ent Tryz.prog 79 := Ent.mk Tryz.func79 rfl (by kernel_rfl)
theorem en_ref03_lacks : Ent Tryz.prog 89 := Ent.mk Tryz.func89 rfl (by kernel_rfl)
theorem en_ref03_long : Ent Tryz.prog 84 := Ent.mk Tryz.func84 rfl (by kernel_rfl)
theorem en_ref03_part : Ent Tryz.prog 77 := Ent.mk Tryz.func77 rfl (by kernel_rfl)
theorem en_ref03_reached : Ent Tryz.prog 88 := Ent.mk Tryz.func88 rfl (by kernel_rfl)
theorem en_ref03_shaped : Ent Tryz.prog 85 := Ent.mk Tryz.func85 rfl (by kernel_rfl)
theorem en_ref08_Begin : Ent Tryz.prog 19 := Ent.mk Tryz.func19 rfl (by kernel_rfl)
theorem en_ref08_Calc : Ent Tryz.prog 69 := Ent.mk Tryz.func69 rfl (by kernel_rfl)
theorem en_ref08_Go : Ent Tryz.prog 16 := Ent.mk Tryz.func16 rfl (by kernel_rfl)
theorem en_ref08_bit : Ent Tryz.prog 106 := Ent.mk Tryz.func106 rfl (by kernel_rfl)
theorem en_ir_Defines : Ent Tryz.prog 39 := Ent.mk Tryz.func39 rfl (by kernel_rfl)
theorem en_ir_IsIns : Ent Tryz.prog 33 := Ent.mk Tryz.func33 rfl (by kernel_rfl)
theorem en_ir_IsIns_1 : Ent Tryz.prog 71 := Ent.mk Tryz.func71 rfl (by kernel_rfl)
theorem en_ir_IsTerm : Ent Tryz.prog 35 := Ent.mk Tryz.func35 rfl (by kernel_rfl)
theorem en_ir_Most : Ent Tryz.prog 44 := Ent.mk Tryz.func44 rfl (by kernel_rfl)
theorem en_ir_Needs : Ent Tryz.prog 31 := Ent.mk Tryz.func31 rfl (by kernel_rfl)
theorem en_ir_Reads : Ent Tryz.prog 30 := Ent.mk Tryz.func30 rfl (by kernel_rfl)
theorem en_ir_Right : Ent Tryz.prog 46 := Ent.mk Tryz.func46 rfl (by kernel_rfl)
theorem en_ir_Size : Ent Tryz.prog 50 := Ent.mk Tryz.func50 rfl (by kernel_rfl)
theorem en_ir_To : Ent Tryz.prog 32 := Ent.mk Tryz.func32 rfl (by kernel_rfl)
theorem en_ir_Vars : Ent Tryz.prog 48 := Ent.mk Tryz.func48 rfl (by kernel_rfl)
theorem en_ir_Vars_1 : Ent Tryz.prog 90 := Ent.mk Tryz.func90 rfl (by kernel_rfl)
theorem en_ir_fits : Ent Tryz.prog 74 := Ent.mk Tryz.func74 rfl (by kernel_rfl)
theorem en_ir_full : Ent Tryz.prog 130 := Ent.mk Tryz.func130 rfl (by kernel_rfl)
theorem en_ir_long : Ent Tryz.prog 82 := Ent.mk Tryz.func82 rfl (by kernel_rfl)
theorem en_ir_long_1 : Ent Tryz.prog 127 := Ent.mk Tryz.func127 rfl (by kernel_rfl)
theorem en_ir_none : Ent Tryz.prog 73 := Ent.mk Tryz.func73 rfl (by kernel_rfl)
theorem en_ir_none_1 : Ent Tryz.prog 107 := Ent.mk Tryz.func107 rfl (by kernel_rfl)
theorem en_ir_reach : Ent Tryz.prog 86 := Ent.mk Tryz.func86 rfl (by kernel_rfl)
theorem en_ir_shaped : Ent Tryz.prog 70 := Ent.mk Tryz.func70 rfl (by kernel_rfl)
theorem en_ir_valued : Ent Tryz.prog 87 := Ent.mk Tryz.func87 rfl (by kernel_rfl)
theorem en_ir_variable : Ent Tryz.prog 72 := Ent.mk Tryz.func72 rfl (by kernel_rfl)
theorem en_ir_whole : Ent Tryz.prog 83 := Ent.mk Tryz.func83 rfl (by kernel_rfl)
theorem en_ir_whole_1 : Ent Tryz.prog 129 := Ent.mk Tryz.func129 rfl (by kernel_rfl)
theorem en_run_Begin : Ent Tryz.prog 18 := Ent.mk Tryz.func18 rfl (by kernel_rfl)
theorem en_run_Calc : Ent Tryz.prog 68 := Ent.mk Tryz.func68 rfl (by kernel_rfl)
theorem en_run_Go : Ent Tryz.prog 15 := Ent.mk Tryz.func15 rfl (by kernel_rfl)
theorem en_run_copied : Ent Tryz.prog 56 := Ent.mk Tryz.func56 rfl (by kernel_rfl)
theorem en_run_trap : Ent Tryz.prog 102 := Ent.mk Tryz.func102 rfl (by kernel_rfl)
theorem en_run_truth : Ent Tryz.prog 105 := Ent.mk Tryz.func105 rfl (by kernel_rfl)
theorem en_slices_Clone_L_int_int : Ent Tryz.prog 57 := Ent.mk Tryz.func57 rfl (by kernel_rfl)
theorem en_slices_Clone_L_api_Block_api_Block : Ent Tryz.prog 94 := Ent.mk Tryz.func94 rfl (by kernel_rfl)
theorem en_slices_Clone_L_api_Ins_api_Ins : Ent Tryz.prog 95 := Ent.mk Tryz.func95 rfl (by kernel_rfl)
theorem en_slices_ContainsFunc_L_int_int : Ent Tryz.prog 75 := Ent.mk Tryz.func75 rfl (by kernel_rfl)
theorem en_slices_ContainsFunc_L_api_Block_api_Block : Ent Tryz.prog 126 := Ent.mk Tryz.func126 rfl (by kernel_rfl)
theorem en_slices_ContainsFunc_L_api_Ins_api_Ins : Ent Tryz.prog 128 := Ent.mk Tryz.func128 rfl (by kernel_rfl)
theorem en_slices_IndexFunc_L_int_int : Ent Tryz.prog 108 := Ent.mk Tryz.func108 rfl (by kernel_rfl)
theorem en_slices_IndexFunc_L_api_Block_api_Block : Ent Tryz.prog 154 := Ent.mk Tryz.func154 rfl (by kernel_rfl)
theorem en_slices_IndexFunc_L_api_Ins_api_Ins : Ent Tryz.prog 155 := Ent.mk Tryz.func155 rfl (by kernel_rfl)
theorem mixed : Tryz.prog.follows .mixedOrders = true := by kernel_rfl
end Go.Proofs.YtcojedoejpcolaaGreat

/- The package bits: sets, walked. -/
namespace Go.Proofs.YtcojedoejpcolaaGreat
set_option linter.unusedVariables false
open Go Go.RowKit
set_option maxRecDepth 100000

def I64 (n : Int) : Prop := -9223372036854775808 ≤ n ∧ n ≤ 9223372036854775807
theorem uint_lt {n : Int} (h : I64 n) : decide (IntKind.u64.wrap n < 1024) = okN n := by
  unfold I64 at h
  rw [wrapU]
  unfold okN
  by_cases h1 : 0 ≤ n <;> by_cases h2 : n < 1024 <;> simp [h1, h2] <;> omega
theorem okN_nat {n : Int} (h : okN n = true) : ∃ k : Nat, n = (k : Int) ∧ k < 1024 := by
  rw [okN_iff] at h
  exact ⟨n.toNat, by omega, by omega⟩
theorem and63 (k : Nat) : k &&& 63 = k % 64 := Nat.and_two_pow_sub_one_eq_mod k 6
theorem pow_mod64 (k : Nat) : 1 * 2 ^ (k % 64) % 2 ^ 64 = 2 ^ (k % 64) := by
  rw [Nat.one_mul, Nat.mod_eq_of_lt]
  exact Nat.pow_lt_pow_right (by decide) (Nat.mod_lt _ (by decide))
theorem pow_lt64 (k : Nat) : 2 ^ (k % 64) < 2 ^ 64 := Nat.pow_lt_pow_right (by decide) (Nat.mod_lt _ (by decide))
theorem take_snoc {α : Type} {l : List α} {k : Nat} (h : k < l.length) : l.take (k + 1) = l.take k ++ [l[k]] := List.take_succ_eq_append_getElem h
theorem withL_take {s : Nat} {l : List Int} {k : Nat} (h : k < l.length) : withL s (l.take (k + 1)) = put (withL s (l.take k)) l[k] := by
  unfold withL; rw [take_snoc h, List.foldl_append]; rfl
theorem lessL_take {s : Nat} {l : List Int} {k : Nat} (h : k < l.length) : lessL s (l.take (k + 1)) = cut (lessL s (l.take k)) l[k] := by
  unfold lessL; rw [take_snoc h, List.foldl_append]; rfl






theorem shr_one (w j : Nat) : decide ((((w / 2 ^ j) &&& 1 : Nat) : Int) = 1) = w.testBit j := by
  rw [Nat.testBit_eq_decide_div_mod_eq, Nat.and_one_is_mod]
  apply decide_eq_decide.2
  omega
theorem wd_bit (s q : Nat) : (wd s (q / 64)).testBit (q % 64) = s.testBit q := by
  rw [testBit_wd, Nat.div_add_mod]
  have : q % 64 < 64 := Nat.mod_lt _ (by decide)
  simp [this]
end Go.Proofs.YtcojedoejpcolaaGreat

/- The least number of a word, the numbers of a set in order, how many there are. Plain Lean. -/
namespace Go.Proofs.YtcojedoejpcolaaGreat
set_option linter.unusedVariables false
open Go Go.RowKit

def tzTab : List Nat := [0, 1, 56, 2, 57, 49, 28, 3, 61, 58, 42, 50, 38, 29, 17, 4, 62, 47, 59, 36, 45, 43, 51, 22, 53, 39, 33, 30, 24, 18, 12, 5, 63, 55, 48, 27, 60, 41, 37, 16, 46, 35, 44, 21, 52, 32, 23, 11, 54, 26, 40, 15, 34, 20, 31, 10, 25, 14, 19, 9, 13, 8, 7, 6]
/-- j is the least number of w. -/
def Least (w j : Nat) : Prop := w.testBit j = true ∧ ∀ i, i < j → w.testBit i = false
theorem least_ex {w : Nat} (h : w ≠ 0) : ∃ j, Least w j := by
  obtain ⟨i, hi⟩ := Nat.exists_testBit_of_ne_zero h
  induction i using Nat.strongRecOn with
  | _ i ih =>
    by_cases hx : ∃ k, k < i ∧ w.testBit k = true
    · obtain ⟨k, hk, hk2⟩ := hx
      exact ih k hk hk2
    · refine ⟨i, hi, fun k hk => ?_⟩
      cases hb : w.testBit k with
      | false => rfl
      | true => exact absurd ⟨k, hk, hb⟩ hx
theorem Least.lt {w j n : Nat} (h : Least w j) (hw : w < 2 ^ n) : j < n := by
  rcases Nat.lt_or_ge j n with hj | hj
  · exact hj
  · have := Nat.testBit_lt_two_pow (Nat.lt_of_lt_of_le hw (Nat.pow_le_pow_right (by decide) hj))
    have h1 := h.1
    rw [this] at h1; cases h1
theorem Least.form {w j : Nat} (h : Least w j) : ∃ q, w = 2 ^ j * (2 * q + 1) := by
  have h0 : w % 2 ^ j = 0 := by
    apply Nat.eq_of_testBit_eq
    intro i
    rw [Nat.testBit_mod_two_pow, Nat.zero_testBit]
    by_cases hi : i < j
    · simp [hi, h.2 i hi]
    · simp [hi]
  have h1 : (w / 2 ^ j) % 2 = 1 := by
    have := h.1
    rw [Nat.testBit_eq_decide_div_mod_eq] at this
    exact of_decide_eq_true this
  refine ⟨w / 2 ^ j / 2, ?_⟩
  have h2 := Nat.div_add_mod w (2 ^ j)
  have h3 := Nat.div_add_mod (w / 2 ^ j) 2
  rw [h0, Nat.add_zero] at h2
  rw [h1] at h3
  rw [h3, h2]
theorem testBit_form {j q r i : Nat} (hr : r < 2 ^ j) : (2 ^ j * q + r).testBit i = if i < j then r.testBit i else q.testBit (i - j) := Nat.testBit_two_pow_mul_add q hr i
/-- The word, and it less 1: without its least number. -/
theorem and_pred {w j : Nat} (h : Least w j) : w &&& (w - 1) = less w (2 ^ j) := by
  obtain ⟨q, hq⟩ := h.form
  have hp : 0 < 2 ^ j := Nat.pow_pos (by decide)
  have e : w - 1 = 2 ^ j * (2 * q) + (2 ^ j - 1) := by
    rw [hq, Nat.mul_add, Nat.mul_one]; omega
  apply Nat.eq_of_testBit_eq
  intro i
  rw [Nat.testBit_and, testBit_less, Nat.testBit_two_pow, e, testBit_form (by omega)]
  have hw : w.testBit i = if i < j then false else (2 * q + 1).testBit (i - j) := by
    rw [hq]
    have := testBit_form (j := j) (q := 2 * q + 1) (r := 0) (i := i) hp
    simpa using this
  rw [hw]
  by_cases hi : i < j
  · simp [hi]
  · rw [if_neg hi, if_neg hi]
    by_cases he : j = i
    · subst he; simp
    · have hpos : 0 < i - j := by omega
      obtain ⟨k, hk⟩ : ∃ k, i - j = k + 1 := ⟨i - j - 1, by omega⟩
      have e1 : (2 * q + 1).testBit (k + 1) = q.testBit k := by rw [Nat.testBit_succ]; congr 1; omega
      have e2 : (2 * q).testBit (k + 1) = q.testBit k := by rw [Nat.testBit_succ]; congr 1; omega
      rw [hk, e1, e2]
      simp [he]
/-- The word, and its opposite: its least number alone. -/
theorem and_opp {w j : Nat} (h : Least w j) (hw : w < 2 ^ 64) : w &&& (2 ^ 64 - w) = 2 ^ j := by
  have hj := h.lt hw
  obtain ⟨q, hq⟩ := h.form
  have hp : 0 < 2 ^ j := Nat.pow_pos (by decide)
  have e64 : (2 : Nat) ^ 64 = 2 ^ j * (2 * 2 ^ (63 - j)) := by
    rw [← Nat.pow_succ', ← Nat.pow_add]; congr 1; omega
  have hlt : 2 * q + 1 < 2 * 2 ^ (63 - j) := by
    have h1 : 2 ^ j * (2 * q + 1) < 2 ^ j * (2 * 2 ^ (63 - j)) := by rw [← e64, ← hq]; exact hw
    exact Nat.lt_of_mul_lt_mul_left h1
  have e : 2 ^ 64 - w = 2 ^ j * (2 * (2 ^ (63 - j) - (q + 1)) + 1) := by
    rw [e64, hq, ← Nat.mul_sub]
    congr 1
    omega
  have hq' : q < 2 ^ (63 - j) := by omega
  apply Nat.eq_of_testBit_eq
  intro i
  have ht : ∀ m, (2 ^ j * m).testBit i = if i < j then false else m.testBit (i - j) := fun m => by
    have := testBit_form (j := j) (q := m) (r := 0) (i := i) hp
    simpa using this
  rw [Nat.testBit_and, Nat.testBit_two_pow, e, hq, ht, ht]
  by_cases hi : i < j
  · simp [hi]; omega
  · rw [if_neg hi, if_neg hi]
    by_cases he : j = i
    · subst he; simp
    · obtain ⟨k, hk⟩ : ∃ k, i - j = k + 1 := ⟨i - j - 1, by omega⟩
      have e1 : ∀ m, (2 * m + 1).testBit (k + 1) = m.testBit k := fun m => by rw [Nat.testBit_succ]; congr 1; omega
      rw [hk, e1, e1, Nat.testBit_two_pow_sub_succ hq']
      simp [he]
      cases q.testBit k <;> simp
theorem tz_tab : ∀ j, j < 64 → tzTab[(2 ^ j * 285870213051353865 % 2 ^ 64 / 2 ^ 58)]? = some j := by decide
theorem tz_lt (j : Nat) : 2 ^ j * 285870213051353865 % 2 ^ 64 / 2 ^ 58 < 64 := by
  have : 2 ^ j * 285870213051353865 % 2 ^ 64 < 2 ^ 64 := Nat.mod_lt _ (by decide)
  omega

/-! ### The numbers in order -/
def upto (s n : Nat) : List Nat := (List.range n).filter s.testBit
def listS (s : Nat) : List Nat := upto s 1024
theorem upto_zero (s : Nat) : upto s 0 = [] := rfl
theorem upto_succ (s n : Nat) : upto s (n + 1) = upto s n ++ (if s.testBit n then [n] else []) := by
  unfold upto
  rw [List.range_succ, List.filter_append]
  congr 1
  cases h : s.testBit n <;> simp [h]
theorem upto_skip {s n : Nat} : ∀ {m : Nat}, n ≤ m → (∀ i, n ≤ i → i < m → s.testBit i = false) → upto s m = upto s n
  | 0, h, _ => by have : n = 0 := by omega
                  rw [this]
  | m + 1, h, hz => by
    by_cases he : n = m + 1
    · rw [he]
    · rw [upto_succ, hz m (by omega) (by omega), upto_skip (m := m) (by omega) (fun i h1 h2 => hz i h1 (by omega))]
      simp
theorem upto_prefix (s : Nat) {n m : Nat} (h : n ≤ m) : ∃ l, upto s m = upto s n ++ l := by
  induction m with
  | zero => exact ⟨[], by have : n = 0 := by omega
                          rw [this]; simp⟩
  | succ m ih =>
    by_cases he : n = m + 1
    · exact ⟨[], by rw [he]; simp⟩
    · obtain ⟨l, hl⟩ := ih (by omega)
      exact ⟨l ++ (if s.testBit m then [m] else []), by rw [upto_succ, hl]; simp⟩
theorem listS_get {s n : Nat} (h : s.testBit n = true) (hn : n < 1024) : (listS s)[(upto s n).length]? = some n := by
  obtain ⟨l, hl⟩ := upto_prefix s (n := n + 1) (m := 1024) (by omega)
  unfold listS
  rw [hl, upto_succ, h]
  simp
theorem mem_upto {s n i : Nat} : i ∈ upto s n ↔ i < n ∧ s.testBit i = true := by simp [upto, List.mem_filter]
theorem mem_listS {s i : Nat} : i ∈ listS s ↔ i < 1024 ∧ s.testBit i = true := mem_upto
theorem upto_len_le (s n : Nat) : (upto s n).length ≤ n := by
  unfold upto
  exact Nat.le_trans (List.length_filter_le _ _) (by simp)
theorem listS_len_le (s : Nat) : (listS s).length ≤ 1024 := upto_len_le s 1024
theorem listS_sorted (s : Nat) : (listS s).Pairwise (· < ·) := List.Pairwise.filter _ List.pairwise_lt_range
/-- A word of which all numbers below p are taken away. -/
def rem (w p : Nat) : Nat := w / 2 ^ p * 2 ^ p
theorem testBit_rem (w p i : Nat) : (rem w p).testBit i = (decide (p ≤ i) && w.testBit i) := by
  unfold rem
  rw [Nat.mul_comm]
  have := testBit_form (j := p) (q := w / 2 ^ p) (r := 0) (i := i) (Nat.pow_pos (by decide))
  rw [Nat.add_zero] at this
  rw [this, Nat.testBit_div_two_pow]
  by_cases h : i < p
  · have : ¬ p ≤ i := by omega
    simp [h, this]
  · have : p ≤ i := by omega
    simp [h, this]
theorem rem_zero (w : Nat) : rem w 0 = w := by simp [rem]
theorem rem_lt {w p : Nat} (h : w < 2 ^ 64) : rem w p < 2 ^ 64 := Nat.lt_of_le_of_lt (Nat.div_mul_le_self _ _) h
theorem rem_less {w p j : Nat} (h : Least (rem w p) j) : less (rem w p) (2 ^ j) = rem w (j + 1) := by
  apply Nat.eq_of_testBit_eq
  intro i
  rw [testBit_less, testBit_rem, testBit_rem, Nat.testBit_two_pow]
  rcases Nat.lt_trichotomy i j with hi | hi | hi
  · have h1 := h.2 i hi
    rw [testBit_rem] at h1
    have h3 : ¬ j + 1 ≤ i := by omega
    simp [h1, h3]
  · subst hi
    have h3 : ¬ i + 1 ≤ i := by omega
    simp [h3]
  · have h1 := h.1
    rw [testBit_rem] at h1
    simp only [Bool.and_eq_true, decide_eq_true_eq] at h1
    have h4 : p ≤ i := by omega
    have h5 : j + 1 ≤ i := by omega
    have h6 : ¬ j = i := by omega
    simp [h4, h5, h6]
end Go.Proofs.YtcojedoejpcolaaGreat

/- The package bits: what goes through a set's numbers, walked. -/
namespace Go.Proofs.YtcojedoejpcolaaGreat
set_option linter.unusedVariables false
open Go Go.RowKit
set_option maxRecDepth 100000

theorem least_pos {w j : Nat} (h : Least w j) : 0 < w := by
  rcases Nat.eq_zero_or_pos w with h0 | h0
  · have := h.1; rw [h0, Nat.zero_testBit] at this; cases this
  · exact h0
def intsN (l : List Nat) : List Value := l.map fun n : Nat => .int .i64 (n : Int)
theorem take_snoc? {α : Type} {l : List α} {k : Nat} {x : α} (h : l[k]? = some x) : l.take (k + 1) = l.take k ++ [x] := by
  obtain ⟨h1, h2⟩ := List.getElem?_eq_some_iff.1 h
  rw [take_snoc h1, h2]
end Go.Proofs.YtcojedoejpcolaaGreat

/- Opening arguments for the walks; closing a law's row. -/
namespace Go.Proofs.YtcojedoejpcolaaGreat
set_option linter.unusedVariables false
open Go.ChangeShapes Go.WideShapes Go.ChangeAt Go.RowKit
set_option maxRecDepth 100000

theorem own_ : ownKnob Tryz.prog.godebug = none := by kernel_rfl
theorem laidOut_ : laidOutB Tryz.prog = true := by kernel_rfl
theorem bytes_int : Tryz.prog.bytesOf 3 = 8 := by kernel_rfl
theorem cells_int : Tryz.prog.cellsOf 3 = 1 := by kernel_rfl
theorem i64_of_wf {n : Int} (h : (Lit.int .i64 n).wf = true) : I64 n := by
  have := bounds_i64 h
  unfold I64; omega
/-- A slice of integers that came in, for the walks. -/
theorem reads_ints {H : Type} {enc : TypeId × Value → H} {W : World} {a : Option Addr} {len cap : Nat} {d : DataW H} {p : List MemPlace} (h : DataW.Trod enc Tryz.prog W 0 (fun _ => true) true 22 (.slice a len cap) d p) :
    ∃ l : List Int, l.length = len ∧ len ≤ cap ∧ Reads W W.heap.size 1 a l.length (ints l) ∧ (∀ n ∈ l, I64 n) ∧ (len = 0 ∨ ∃ elems spare, d = .slice elems spare ∧ len ≤ elems.length + spare.length) := by
  obtain ⟨fuel, hf⟩ := h
  rcases open_ints Tryz.underlying22 Tryz.underlying3 cells_int hf with ⟨hcs, hx⟩ | ⟨x, l, c, zs, hcs, _, hl, hm, hz, hx, hcell, hwz⟩
  · simp [Value.cells] at hcs
    obtain ⟨rfl, rfl, rfl⟩ := hcs
    exact ⟨[], rfl, Nat.le_refl _, ⟨rfl, fun h => by simp at h⟩, by simp, .inl rfl⟩
  · simp [Value.cells] at hcs
    obtain ⟨rfl, rfl, rfl⟩ := hcs
    have hz' : zs.length = cap := by simpa using hz
    have hlen : (zs.take len).length = len := by simp; omega
    refine ⟨zs.take len, hlen, hl, ⟨by simp [ints], fun hn => ⟨x, rfl, ?_, fun j u hu => ?_⟩⟩, fun n hn => i64_of_wf (hwz n (List.mem_of_mem_take hn)), .inr ⟨_, _, congrArg Prod.fst hx, ?_⟩⟩
    · have h0 := hcell 0 (by omega)
      have := World.block_lt_of_cell? W _ h0
      simpa [Addr.add] using this
    · unfold ints at hu
      rw [List.getElem?_map] at hu
      cases hj : (zs.take len)[j]? with
      | none => rw [hj] at hu; cases hu
      | some z =>
        rw [hj] at hu
        cases hu
        have h1 : j < len := by
          have := (List.getElem?_eq_some_iff.1 hj).1
          omega
        have h2 := hcell j (by omega)
        rw [h2]
        rw [List.getElem?_take, if_pos h1] at hj
        simp [List.getD_eq_getElem?_getD, hj]
    · simp [lits]
      omega
end Go.Proofs.YtcojedoejpcolaaGreat

/- Functions of the program (api.Func), as they lie in memory; plain functions on them. -/
namespace Go.Proofs.YtcojedoejpcolaaGreat
set_option linter.unusedVariables false
open Go Go.RowKit

structure Tm where
  kind : Int
  a : Int
  t0 : Int
  t1 : Int
deriving DecidableEq
structure RIns where
  op : Int
  dst : Int
  a : Int
  b : Int
  imm : Int
  callee : Int
  aA : Option Addr
  aC : Nat
  args : List Int
  many : Int
structure RBlk where
  iA : Option Addr
  iC : Nat
  ins : List RIns
  term : Tm
structure RFun where
  pA : Option Addr
  pC : Nat
  params : List Int
  bA : Option Addr
  bC : Nat
  blocks : List RBlk
def Tm.cells (t : Tm) : List Value := [.int .i64 t.kind, .int .i64 t.a, .int .i64 t.t0, .int .i64 t.t1]
def RIns.cells (i : RIns) : List Value := [.int .i64 i.op, .int .i64 i.dst, .int .i64 i.a, .int .i64 i.b, .int .i64 i.imm, .int .i64 i.callee, .slice i.aA i.args.length i.aC, .int .i64 i.many]
def RBlk.cells (b : RBlk) : List Value := .slice b.iA b.ins.length b.iC :: b.term.cells
def RFun.cells (f : RFun) : List Value := [.slice f.pA f.params.length f.pC, .slice f.bA f.blocks.length f.bC]
def RFun.val (f : RFun) : Value := .agg f.cells.toArray
def Tm.val (t : Tm) : Value := .agg t.cells.toArray
def RIns.val (i : RIns) : Value := .agg i.cells.toArray
def RBlk.val (b : RBlk) : Value := .agg b.cells.toArray
def RFun.terms (f : RFun) : List Tm := f.blocks.map RBlk.term
theorem RBlk.len (b : RBlk) : b.cells.length = 5 := rfl
theorem RIns.len (i : RIns) : i.cells.length = 8 := rfl
theorem Tm.len (t : Tm) : t.cells.length = 4 := rfl
theorem flat_get {α β : Type} {f : α → List β} {s : Nat} (hs : ∀ x, (f x).length = s) : ∀ (l : List α) (k j : Nat) (x : α), l[k]? = some x → j < s → (l.flatMap f)[k * s + j]? = (f x)[j]?
  | [], k, j, x, h, _ => by simp at h
  | y :: l, 0, j, x, h, hj => by
    simp at h
    subst h
    rw [List.flatMap_cons, Nat.zero_mul, Nat.zero_add, List.getElem?_append_left (by rw [hs]; exact hj)]
  | y :: l, k + 1, j, x, h, hj => by
    have ih := flat_get hs l k j x (by simpa using h) hj
    rw [List.flatMap_cons, List.getElem?_append_right (by rw [hs, Nat.add_mul]; omega), hs]
    rw [← ih]
    congr 1
    rw [Nat.add_mul]; omega
theorem flat_len {α β : Type} {f : α → List β} {s : Nat} (hs : ∀ x, (f x).length = s) : ∀ l : List α, (l.flatMap f).length = l.length * s
  | [] => by simp
  | y :: l => by rw [List.flatMap_cons, List.length_append, hs, flat_len hs l, List.length_cons, Nat.add_mul]; omega
/-- All of a function lies below B. -/
structure FunAt (w : World) (B : Nat) (f : RFun) : Prop where
  params : Reads w B 1 f.pA f.params.length (ints f.params)
  blocks : Reads w B 5 f.bA f.blocks.length (f.blocks.flatMap RBlk.cells)
  ins : ∀ b ∈ f.blocks, Reads w B 8 b.iA b.ins.length (b.ins.flatMap RIns.cells)
  args : ∀ b ∈ f.blocks, ∀ i ∈ b.ins, Reads w B 1 i.aA i.args.length (ints i.args)
theorem FunAt.now {w0 w : World} {B : Nat} {f : RFun} {L : List Res} (h : FunAt w0 B f) (hh : Hp w0 B L w) : FunAt w w.heap.size f :=
  ⟨h.params.now hh, h.blocks.now hh, fun b hb => (h.ins b hb).now hh, fun b hb i hi => (h.args b hb i hi).now hh⟩
theorem FunAt.cell {w : World} {B : Nat} {f : RFun} (h : FunAt w B f) {k j : Nat} {b : RBlk} (hk : f.blocks[k]? = some b) (hj : j < 5) : (f.blocks.flatMap RBlk.cells)[k * 5 + j]? = b.cells[j]? := flat_get RBlk.len _ _ _ _ hk hj
/-- Its numbers are numbers, its lists are not endless. -/
structure Fit (f : RFun) : Prop where
  params : ∀ n ∈ f.params, -9223372036854775808 ≤ n ∧ n ≤ 9223372036854775807
  plen : f.params.length < 2 ^ 50
  blen : f.blocks.length < 2 ^ 50
  pcap : f.params.length ≤ f.pC
  bcap : f.blocks.length ≤ f.bC
  ilen : ∀ b ∈ f.blocks, b.ins.length < 2 ^ 50
  icap : ∀ b ∈ f.blocks, b.ins.length ≤ b.iC
  term : ∀ b ∈ f.blocks, ∀ n ∈ [b.term.kind, b.term.a, b.term.t0, b.term.t1], -9223372036854775808 ≤ n ∧ n ≤ 9223372036854775807
  insr : ∀ b ∈ f.blocks, ∀ i ∈ b.ins, ∀ n ∈ [i.op, i.dst, i.a, i.b, i.imm, i.callee, i.many], -9223372036854775808 ≤ n ∧ n ≤ 9223372036854775807
  alen : ∀ b ∈ f.blocks, ∀ i ∈ b.ins, i.args.length < 2 ^ 50
  acap : ∀ b ∈ f.blocks, ∀ i ∈ b.ins, i.args.length ≤ i.aC
  argr : ∀ b ∈ f.blocks, ∀ i ∈ b.ins, ∀ n ∈ i.args, -9223372036854775808 ≤ n ∧ n ≤ 9223372036854775807

/-! ### Ends -/
def varB (n : Int) : Bool := decide (1 ≤ n) && decide (n ≤ 200)
def fitsB (has : Bool) (n : Int) : Bool := bif has then varB n else decide (n = 0)
def noneB (l : List Int) : Bool := l.all fun n => decide (n = 0)
def isTerm (t : Tm) : Bool :=
  bif decide (t.kind = 1) then noneB [t.a, t.t1] else bif decide (t.kind = 2) then varB t.a else bif decide (t.kind = 3) then fitsB (!decide (t.a = 0)) t.a && noneB [t.t0, t.t1] else decide (t.kind = 4) && noneB [t.a, t.t0, t.t1]
def toL (t : Tm) : List Int := bif isTerm t then (bif decide (t.kind = 1) then [t.t0] else bif decide (t.kind = 2) then [t.t0, t.t1] else []) else []
theorem toL_len (t : Tm) : (toL t).length ≤ 2 := by
  unfold toL
  cases isTerm t <;> simp
  cases decide (t.kind = 1) <;> simp
  cases decide (t.kind = 2) <;> simp
theorem toL_mem {t : Tm} {n : Int} (h : n ∈ toL t) : n = t.t0 ∨ n = t.t1 := by
  unfold toL at h
  cases h1 : isTerm t <;> simp [h1] at h
  cases h2 : decide (t.kind = 1) <;> simp [h2] at h
  · cases h3 : decide (t.kind = 2) <;> simp [h3] at h
    exact h
  · exact .inl h

/-! ### Edges -/
structure Ed where
  src : Int
  arm : Int
  to : Int
deriving DecidableEq
def Ed.cells (e : Ed) : List Value := [.int .i64 e.src, .int .i64 e.arm, .int .i64 e.to]
def Ed.val (e : Ed) : Value := .agg e.cells.toArray
def edgesB (b : Nat) (l : List Int) : List Ed := l.zipIdx.map fun x => ⟨(b : Int), (x.2 : Int), x.1⟩
def edgesTo (ts : List Tm) (k : Nat) : List Ed := (ts.take k).zipIdx.flatMap fun x => edgesB x.2 (toL x.1)
def edges (ts : List Tm) : List Ed := edgesTo ts ts.length
theorem edgesTo_zero (ts : List Tm) : edgesTo ts 0 = [] := by simp [edgesTo]
theorem take_snoc_ {α : Type} {l : List α} {k : Nat} {x : α} (h : l[k]? = some x) : l.take (k + 1) = l.take k ++ [x] := by
  obtain ⟨h1, h2⟩ := List.getElem?_eq_some_iff.1 h
  rw [List.take_succ_eq_append_getElem h1, h2]
theorem edgesTo_succ {ts : List Tm} {k : Nat} {t : Tm} (h : ts[k]? = some t) : edgesTo ts (k + 1) = edgesTo ts k ++ edgesB k (toL t) := by
  have hk := (List.getElem?_eq_some_iff.1 h).1
  unfold edgesTo
  rw [take_snoc_ h, List.zipIdx_append, List.flatMap_append]
  congr 1
  have : (ts.take k).length = k := by simp; omega
  simp [this]
theorem edgesTo_pre (ts : List Tm) : ∀ {k m : Nat}, k ≤ m → m ≤ ts.length → ∃ r, edgesTo ts m = edgesTo ts k ++ r := by
  intro k m h hm
  induction m with
  | zero => exact ⟨[], by rw [show k = 0 by omega]; simp⟩
  | succ m ih =>
    by_cases he : k = m + 1
    · exact ⟨[], by rw [he]; simp⟩
    · obtain ⟨r, hr⟩ := ih (by omega) (by omega)
      exact ⟨r ++ edgesB m (toL ts[m]), by rw [edgesTo_succ (List.getElem?_eq_getElem (by omega)), hr]; simp⟩
theorem edgesB_len (b : Nat) (l : List Int) : (edgesB b l).length = l.length := by simp [edgesB]
/-- The edge behind those of the blocks below k, and of k's first arms. -/
theorem edges_get {ts : List Tm} {k j : Nat} {t : Tm} {n : Int} (h : ts[k]? = some t) (hj : (toL t)[j]? = some n) : (edges ts)[(edgesTo ts k).length + j]? = some ⟨(k : Int), (j : Int), n⟩ := by
  have hk := (List.getElem?_eq_some_iff.1 h).1
  have hjl := (List.getElem?_eq_some_iff.1 hj).1
  obtain ⟨r, hr⟩ := edgesTo_pre ts (k := k + 1) (m := ts.length) (by omega) (Nat.le_refl _)
  unfold edges
  rw [hr, edgesTo_succ h, List.append_assoc, List.getElem?_append_right (by omega), Nat.add_sub_cancel_left, List.getElem?_append_left (by rw [edgesB_len]; exact hjl)]
  unfold edgesB
  rw [List.getElem?_map, List.getElem?_zipIdx, hj]
  simp
theorem edgesTo_len_le (ts : List Tm) (k : Nat) : (edgesTo ts k).length ≤ 2 * k := by
  induction k with
  | zero => simp [edgesTo]
  | succ k ih =>
    by_cases h : k < ts.length
    · rw [edgesTo_succ (List.getElem?_eq_getElem h), List.length_append, edgesB_len]
      have := toL_len ts[k]
      omega
    · have : edgesTo ts (k + 1) = edgesTo ts k := by unfold edgesTo; rw [List.take_of_length_le (by omega), List.take_of_length_le (by omega)]
      rw [this]; omega
theorem mem_edges {ts : List Tm} {e : Ed} : e ∈ edges ts ↔ ∃ (k j : Nat) (t : Tm), ts[k]? = some t ∧ (toL t)[j]? = some e.to ∧ e.src = (k : Int) ∧ e.arm = (j : Int) := by
  unfold edges edgesTo edgesB
  simp only [List.take_length, List.mem_flatMap, Prod.exists, List.mem_map, List.mem_zipIdx_iff_getElem?]
  constructor
  · rintro ⟨t, k, hk, n, j, hj, rfl⟩
    exact ⟨k, j, t, hk, hj, rfl, rfl⟩
  · rintro ⟨k, j, t, hk, hj, h1, h2⟩
    refine ⟨t, k, hk, e.to, j, hj, ?_⟩
    cases e
    simp at h1 h2
    simp [h1, h2]
/-- Do all edges go to blocks, and are there blocks, not too many? -/
def closed (ts : List Tm) : Bool := (edges ts).all (fun e => decide (0 ≤ e.to) && decide (e.to < (ts.length : Int))) && decide (0 < ts.length) && decide (ts.length ≤ 200)
def someE (ts : List Tm) (p : Ed → Bool) : List Ed := bif closed ts then (edges ts).filter p else []
def edV (l : List Ed) : List Value := l.flatMap Ed.cells
theorem Ed.len (e : Ed) : e.cells.length = 3 := rfl
end Go.Proofs.YtcojedoejpcolaaGreat

/- The package ir: ends, where they go; the slices' functions that they call, walked. -/
namespace Go.Proofs.YtcojedoejpcolaaGreat
set_option linter.unusedVariables false
open Go Go.RowKit
set_option maxRecDepth 100000

section
theorem ir_variable_ct {w : World} {n : Int} : Ct Tryz.prog 72 #[.int .i64 n] w (Is (.bool (varB n))) := by
  refine Ct.mk Tryz.func72 rfl rfl ?_
  refine Cd.seq ?_
  refine Cd.region ?_
  refine Ol.p asb ?_
  refine Ol.nil ?_
  refine Cd.seq ?_
  cases h : decide (1 ≤ n) with
  | true =>
    refine Cd.region ?_
    refine Ol.p mvi ?_
    refine Ol.p gei ?_
    refine Ol.p mvb ?_
    refine Ol.gp h mvi ?_
    refine Ol.gp h lei ?_
    refine Ol.p (pkTb h) ?_
    refine Ol.p asb ?_
    refine Ol.nil ?_
    refine Cd.ret ⟨.bool _, ret1 rfl rfl, [], .nil, ?_, rfl⟩
    unfold varB; rw [h]; rfl
  | false =>
    refine Cd.region ?_
    refine Ol.p mvi ?_
    refine Ol.p gei ?_
    refine Ol.p mvb ?_
    refine Ol.gn h ?_
    refine Ol.gn h ?_
    refine Ol.p (pkFb h) ?_
    refine Ol.p asb ?_
    refine Ol.nil ?_
    refine Cd.ret ⟨.bool _, ret1 rfl rfl, [], .nil, ?_, rfl⟩
    unfold varB; rw [h]; rfl
theorem ir_fits_ct {w : World} {b : Bool} {n : Int} : Ct Tryz.prog 74 #[.bool b, .int .i64 n] w (Is (.bool (fitsB b n))) := by
  refine Ct.mk Tryz.func74 rfl rfl ?_
  refine Cd.seq ?_
  refine Cd.region ?_
  refine Ol.p asb ?_
  refine Ol.nil ?_
  refine Cd.seq ?_
  refine Cd.seq ?_
  refine Cd.region ?_
  refine Ol.p mvb ?_
  refine Ol.nil ?_
  refine Cd.cond rfl (fun h => ?_) (fun h => ?_)
  · subst h
    refine Cd.seq ?_
    refine Cd.region ?_
    refine Ol.p mvi ?_
    refine Ol.s (cl en_ir_variable (fun M w' hh => ir_variable_ct)) ?_
    refine Ol.p asb ?_
    refine Ol.nil ?_
    refine Cd.ret ⟨.bool _, ret1 rfl rfl, [], .nil, rfl, rfl⟩
  · subst h
    refine Cd.skip ?_
    refine Cd.seq ?_
    refine Cd.region ?_
    refine Ol.p mvi ?_
    refine Ol.p eqi ?_
    refine Ol.p asb ?_
    refine Ol.nil ?_
    refine Cd.ret ⟨.bool _, ret1 rfl rfl, [], .nil, rfl, rfl⟩
end

/-- The place of the first one that p takes. -/
def indexI {α : Type} (p : α → Bool) (l : List α) : Int := match l.findIdx? p with
  | some i => (i : Int)
  | none => -1
theorem indexI_at {α : Type} {p : α → Bool} {l : List α} {k : Nat} {x : α} (hx : l[k]? = some x) (hp : p x = true) (hb : ∀ i y, i < k → l[i]? = some y → p y = false) : indexI p l = (k : Int) := by
  have hk := (List.getElem?_eq_some_iff.1 hx).1
  have : l.findIdx? p = some k := by
    rw [List.findIdx?_eq_some_iff_getElem]
    refine ⟨hk, ?_, ?_⟩
    · rw [(List.getElem?_eq_some_iff.1 hx).2]; exact hp
    · intro j hj
      rw [hb j l[j] hj (List.getElem?_eq_getElem (by omega))]; simp
  unfold indexI; rw [this]
theorem indexI_none {α : Type} {p : α → Bool} {l : List α} (hb : ∀ i y, i < l.length → l[i]? = some y → p y = false) : indexI p l = -1 := by
  have : l.findIdx? p = none := by
    rw [List.findIdx?_eq_none_iff]
    intro x hx
    obtain ⟨i, hi, rfl⟩ := List.getElem_of_mem hx
    exact hb i _ hi (List.getElem?_eq_getElem hi)
  unfold indexI; rw [this]
theorem indexI_ge {α : Type} (p : α → Bool) (l : List α) : decide ((0 : Int) ≤ indexI p l) = l.any p := by
  rw [Bool.eq_iff_iff, decide_eq_true_iff]
  unfold indexI
  cases h : l.findIdx? p with
  | none =>
    rw [List.findIdx?_eq_none_iff] at h
    constructor
    · intro h0; simp at h0
    · intro h0
      rw [List.any_eq_true] at h0
      obtain ⟨x, hx, hp⟩ := h0
      rw [h x hx] at hp; cases hp
  | some i =>
    rw [List.findIdx?_eq_some_iff_getElem] at h
    obtain ⟨hi, hp, _⟩ := h
    constructor
    · intro _
      rw [List.any_eq_true]
      exact ⟨_, List.getElem_mem hi, hp⟩
    · intro _; show (0 : Int) ≤ (i : Int); omega
theorem indexI_lt {α : Type} (p : α → Bool) (l : List α) : indexI p l < l.length := by
  unfold indexI
  cases h : l.findIdx? p with
  | none => simp; omega
  | some i =>
    rw [List.findIdx?_eq_some_iff_getElem] at h
    obtain ⟨hi, _⟩ := h
    show (i : Int) < l.length
    omega
/-- A function value that tells whether something is so of numbers. -/
def TellsI (P : Program) (w : World) (g : FuncId) (fst cap : Array Value) (l : List Int) (p : Int → Bool) : Prop := Ent P g ∧ ∀ n ∈ l, ∀ w', Below w.heap.size w w' → Ct P g (fst ++ #[.int .i64 n] ++ cap) w' (Is (.bool (p n)))
section
theorem slices_IndexFunc_L_int_int_ct {w : World} {A : Option Addr} {c : Nat} {l : List Int} {g : FuncId} {fst cap : Array Value} {p : Int → Bool} (hl : Reads w w.heap.size 1 A l.length (ints l)) (hb : l.length < 2 ^ 62) (hf : TellsI Tryz.prog w g fst cap l p) :
    Ct Tryz.prog 108 #[.slice A l.length c, .func (.func g) fst cap] w (Is (.int .i64 (indexI p l))) := by
  refine Ct.mk Tryz.func108 rfl rfl ?_
  refine Cd.seq ?_
  refine Cd.region ?_
  refine Ol.p asi ?_
  refine Ol.nil ?_
  refine Cd.seq ?_
  refine Cd.seq ?_
  refine Cd.region ?_
  refine Ol.p mvs ?_
  refine Ol.p (lens sl_L_int) ?_
  refine Ol.p mvi ?_
  refine Ol.nil ?_
  refine Cd.block ?_
  refine Cd.loop (fun m σ L => ∃ k, m = l.length - k ∧ k ≤ l.length ∧ Has σ [(0, .slice A l.length c), (1, .func (.func g) fst cap), (7, .int .i64 l.length), (8, .int .i64 k)] ∧ L = [] ∧ ∀ i y, i < k → l[i]? = some y → p y = false) (n := l.length) ⟨0, rfl, Nat.zero_le _, ⟨rfl, rfl, rfl, rfl, trivial⟩, rfl, fun i y h => by omega⟩ ?_
  rintro _ σ L ⟨k, rfl, hk, hs, rfl, hno⟩
  refine Cd.has hs ?_
  refine Cd.seq ?_
  refine Cd.region ?_
  refine Ol.p lsi ?_
  refine Ol.nil ?_
  refine Cd.seq ?_
  refine Cd.cond rfl (fun h => ?_) (fun h => ?_)
  · have hlt : k < l.length := by simpa using h
    refine Cd.skip ?_
    refine Cd.seq ?_
    refine Cd.block ?_
    refine Cd.seq ?_
    refine Cd.region ?_
    refine Ol.p mvi ?_
    refine Ol.p asi ?_
    refine Ol.nil ?_
    refine Cd.seq ?_
    refine Cd.region ?_
    refine Ol.p mvf ?_
    refine Ol.p mvs ?_
    refine Ol.p mvi ?_
    refine Ol.p (ixn1 sl_L_int (Som.slc hl (by omega))) ?_
    refine Ol.p (ld one_int (Rd.slc hl (ints_get hlt))) ?_
    refine Ol.x (sp_callv hf.1 (fun M w' hh => hf.2 _ (List.getElem_mem hlt) w' hh.below)) ?_
    rintro _ _ ⟨_, rfl, rfl, rfl⟩
    refine Ol.nil ?_
    refine Cd.cond rfl (fun h2 => ?_) (fun h2 => ?_)
    · refine Cd.seq ?_
      refine Cd.region ?_
      refine Ol.p mvi ?_
      refine Ol.p asi ?_
      refine Ol.nil ?_
      refine Cd.ret ⟨_, ret1 rfl rfl, [], .nil, ?_, rfl⟩
      rw [indexI_at (List.getElem?_eq_getElem hlt) h2 hno]
      rfl
    · refine Cd.skip ?_
      refine Cd.region ?_
      refine Ol.p addi ?_
      refine Ol.p mvi ?_
      refine Ol.nil ?_
      refine ⟨l.length - (k + 1), by omega, k + 1, rfl, by omega, ⟨rfl, rfl, rfl, rfl, trivial⟩, rfl, ?_⟩
      intro i y hi hy
      rcases Nat.lt_or_ge i k with h3 | h3
      · exact hno i y h3 hy
      · have : i = k := by omega
        subst this
        rw [List.getElem?_eq_getElem hlt] at hy
        cases hy
        exact h2
  · have hge : k = l.length := by
      have : ¬ (k : Int) < l.length := by simpa using h
      omega
    subst hge
    refine Cd.exit (id := 0) ?_
    refine Cd.seq ?_
    refine Cd.region ?_
    refine Ol.p asi ?_
    refine Ol.nil ?_
    refine Cd.ret ⟨_, ret1 rfl rfl, [], .nil, ?_, rfl⟩
    rw [indexI_none hno]
    rfl
theorem slices_ContainsFunc_L_int_int_ct {w : World} {A : Option Addr} {c : Nat} {l : List Int} {g : FuncId} {fst cap : Array Value} {p : Int → Bool} (hl : Reads w w.heap.size 1 A l.length (ints l)) (hb : l.length < 2 ^ 62) (hf : TellsI Tryz.prog w g fst cap l p) :
    Ct Tryz.prog 75 #[.slice A l.length c, .func (.func g) fst cap] w (Is (.bool (l.any p))) := by
  refine Ct.mk Tryz.func75 rfl rfl ?_
  refine Cd.seq ?_
  refine Cd.region ?_
  refine Ol.p asb ?_
  refine Ol.nil ?_
  refine Cd.seq ?_
  refine Cd.region ?_
  refine Ol.p mvs ?_
  refine Ol.p mvf ?_
  refine Ol.s (cl en_slices_IndexFunc_L_int_int (fun M w' hh => slices_IndexFunc_L_int_int_ct (hl.now hh) hb ⟨hf.1, fun n hn w2 h2 => hf.2 n hn w2 (hh.below.trans (h2.mono hh.le))⟩)) ?_
  refine Ol.p gei ?_
  refine Ol.p asb ?_
  refine Ol.nil ?_
  refine Cd.ret ⟨.bool _, ret1 rfl rfl, [], .nil, ?_, rfl⟩
  rw [indexI_ge]
end
theorem Tm.tos (t : Tm) : ∀ (j : Nat) (u : Value), (ints [t.t0, t.t1])[j]? = some u → t.cells.toArray[2 + j]? = some u
  | 0, _, h => h
  | 1, _, h => h
  | _ + 2, _, h => by simp [ints] at h
section
theorem ir_none_1_ct {w : World} {n : Int} : Ct Tryz.prog 107 #[.int .i64 n] w (Is (.bool (!decide (n = 0)))) := by
  refine Ct.mk Tryz.func107 rfl rfl ?_
  refine Cd.seq ?_
  refine Cd.region ?_
  refine Ol.p asb ?_
  refine Ol.nil ?_
  refine Cd.seq ?_
  refine Cd.region ?_
  refine Ol.p mvi ?_
  refine Ol.p nei ?_
  refine Ol.p asb ?_
  refine Ol.nil ?_
  refine Cd.ret ⟨.bool _, ret1 rfl rfl, [], .nil, rfl, rfl⟩
theorem ir_none_ct {w : World} {A : Option Addr} {c : Nat} {l : List Int} (hl : Reads w w.heap.size 1 A l.length (ints l)) (hb : l.length < 2 ^ 62) : Ct Tryz.prog 73 #[.slice A l.length c] w (Is (.bool (noneB l))) := by
  refine Ct.mk Tryz.func73 rfl rfl ?_
  refine Cd.seq ?_
  refine Cd.region ?_
  refine Ol.p asb ?_
  refine Ol.nil ?_
  refine Cd.seq ?_
  refine Cd.region ?_
  refine Ol.p mvs ?_
  refine Ol.s (cl en_slices_ContainsFunc_L_int_int (fun M w' hh => slices_ContainsFunc_L_int_int_ct (g := 107) (fst := #[]) (cap := #[]) (p := fun n => !decide (n = 0)) (hl.now hh) hb ⟨en_ir_none_1, fun n hn w2 h2 => ir_none_1_ct⟩)) ?_
  refine Ol.p noti ?_
  refine Ol.p asb ?_
  refine Ol.nil ?_
  refine Cd.ret ⟨.bool _, ret1 rfl rfl, [], .nil, ?_, rfl⟩
  unfold noneB
  rw [List.not_any_eq_all_not]
  simp
set_option maxHeartbeats 1000000 in
theorem ir_IsTerm_ct {w : World} {t : Tm} : Ct Tryz.prog 35 #[t.val] w (Is (.bool (isTerm t))) := by
  refine Ct.mk Tryz.func35 rfl rfl ?_
  refine Cd.seq ?_
  refine Cd.region ?_
  refine Ol.x bxg ?_
  rintro _ _ ⟨g1, rfl, rfl⟩
  refine Ol.p asb ?_
  refine Ol.nil ?_
  refine Cd.seq ?_
  refine Cd.seq ?_
  refine Cd.region ?_
  refine Ol.p (fdl fd_api_Term_0) ?_
  refine Ol.p (ld one_api_TermKind (Rd.blk (i := 0) rfl rfl)) ?_
  refine Ol.nil ?_
  refine Cd.block ?_
  refine Cd.seq ?_
  refine Cd.region ?_
  refine Ol.p eqi ?_
  refine Ol.p asb ?_
  refine Ol.nil ?_
  refine Cd.cond rfl (fun h1 => ?_) (fun h1 => ?_)
  · refine Cd.seq ?_
    refine Cd.region ?_
    refine Ol.p (fdl fd_api_Term_1) ?_
    refine Ol.p (ld one_int (Rd.blk (i := 0) rfl rfl)) ?_
    refine Ol.p (fdl fd_api_Term_2) ?_
    refine Ol.p (ixl (ix := 1) ar_A2_int) ?_
    refine Ol.p (ld one_int (Rd.blk (i := 0) rfl rfl)) ?_
    refine Ol.x (bsv [.int .i64 t.a, .int .i64 t.t1] sl_L_int zr_int (by simp [Value.cells])) ?_
    rintro _ _ ⟨g12, rfl, rfl⟩
    refine Ol.s (cl en_ir_none (fun M w' hh => ir_none_ct (l := [t.a, t.t1]) (Reads.row hh (i := 0) rfl) (by simp))) ?_
    refine Ol.p asb ?_
    refine Ol.nil ?_
    refine Cd.ret ⟨.bool _, ret1 rfl rfl, [], .nil, ?_, rfl⟩
    unfold isTerm; rw [h1]; rfl
  · refine Cd.seq ?_
    refine Cd.region ?_
    refine Ol.p eqi ?_
    refine Ol.p asb ?_
    refine Ol.nil ?_
    refine Cd.cond rfl (fun h2 => ?_) (fun h2 => ?_)
    · refine Cd.seq ?_
      refine Cd.region ?_
      refine Ol.p (fdl fd_api_Term_1) ?_
      refine Ol.p (ld one_int (Rd.blk (i := 0) rfl rfl)) ?_
      refine Ol.s (cl en_ir_variable (fun M w' hh => ir_variable_ct)) ?_
      refine Ol.p asb ?_
      refine Ol.nil ?_
      refine Cd.ret ⟨.bool _, ret1 rfl rfl, [], .nil, ?_, rfl⟩
      unfold isTerm; rw [h1, h2]; rfl
    · refine Cd.seq ?_
      refine Cd.region ?_
      refine Ol.p eqi ?_
      refine Ol.p asb ?_
      refine Ol.nil ?_
      refine Cd.cond rfl (fun h3 => ?_) (fun h3 => ?_)
      · refine Cd.seq ?_
        cases h4 : fitsB (!decide (t.a = 0)) t.a with
        | true =>
          refine Cd.region ?_
          refine Ol.p (fdl fd_api_Term_1) ?_
          refine Ol.p (ld one_int (Rd.blk (i := 0) rfl rfl)) ?_
          refine Ol.p nei ?_
          refine Ol.p (fdl fd_api_Term_1) ?_
          refine Ol.p (ld one_int (Rd.blk (i := 0) rfl rfl)) ?_
          refine Ol.s (cl en_ir_fits (fun M w' hh => ir_fits_ct)) ?_
          refine Ol.p mvb ?_
          refine Ol.gp h4 (fdl fd_api_Term_2) ?_
          refine Ol.gp h4 (sla ar_A2_int) ?_
          refine Ol.gs h4 (cl en_ir_none (fun M w' hh => ir_none_ct (l := [t.t0, t.t1]) (Reads.blk hh (i := 0) rfl rfl t.tos) (by simp))) ?_
          refine Ol.p (pkTb h4) ?_
          refine Ol.p asb ?_
          refine Ol.nil ?_
          refine Cd.ret ⟨.bool _, ret1 rfl rfl, [], .nil, ?_, rfl⟩
          unfold isTerm; rw [h1, h2, h3, h4]; rfl
        | false =>
          refine Cd.region ?_
          refine Ol.p (fdl fd_api_Term_1) ?_
          refine Ol.p (ld one_int (Rd.blk (i := 0) rfl rfl)) ?_
          refine Ol.p nei ?_
          refine Ol.p (fdl fd_api_Term_1) ?_
          refine Ol.p (ld one_int (Rd.blk (i := 0) rfl rfl)) ?_
          refine Ol.s (cl en_ir_fits (fun M w' hh => ir_fits_ct)) ?_
          refine Ol.p mvb ?_
          refine Ol.gn h4 ?_
          refine Ol.gn h4 ?_
          refine Ol.gn h4 ?_
          refine Ol.p (pkFb h4) ?_
          refine Ol.p asb ?_
          refine Ol.nil ?_
          refine Cd.ret ⟨.bool _, ret1 rfl rfl, [], .nil, ?_, rfl⟩
          unfold isTerm; rw [h1, h2, h3, h4]; rfl
      · refine Cd.skip ?_
        refine Cd.seq ?_
        cases h4 : decide (t.kind = 4) with
        | true =>
          refine Cd.region ?_
          refine Ol.p (fdl fd_api_Term_0) ?_
          refine Ol.p (ld one_api_TermKind (Rd.blk (i := 0) rfl rfl)) ?_
          refine Ol.p eqi ?_
          refine Ol.p mvb ?_
          refine Ol.gp h4 (fdl fd_api_Term_1) ?_
          refine Ol.gp h4 (ld one_int (Rd.blk (i := 0) rfl rfl)) ?_
          refine Ol.gp h4 (fdl fd_api_Term_2) ?_
          refine Ol.gp h4 (ixl (ix := 0) ar_A2_int) ?_
          refine Ol.gp h4 (ld one_int (Rd.blk (i := 0) rfl rfl)) ?_
          refine Ol.gp h4 (fdl fd_api_Term_2) ?_
          refine Ol.gp h4 (ixl (ix := 1) ar_A2_int) ?_
          refine Ol.gp h4 (ld one_int (Rd.blk (i := 0) rfl rfl)) ?_
          refine Ol.gx h4 (bsv [.int .i64 t.a, .int .i64 t.t0, .int .i64 t.t1] sl_L_int zr_int (by simp [Value.cells])) ?_
          rintro _ _ ⟨g44, rfl, rfl⟩
          refine Ol.gs h4 (cl en_ir_none (fun M w' hh => ir_none_ct (l := [t.a, t.t0, t.t1]) (Reads.row hh (i := 0) rfl) (by simp))) ?_
          refine Ol.p (pkTb h4) ?_
          refine Ol.p asb ?_
          refine Ol.nil ?_
          refine Cd.ret ⟨.bool _, ret1 rfl rfl, [], .nil, ?_, rfl⟩
          unfold isTerm; rw [h1, h2, h3, h4]; rfl
        | false =>
          refine Cd.region ?_
          refine Ol.p (fdl fd_api_Term_0) ?_
          refine Ol.p (ld one_api_TermKind (Rd.blk (i := 0) rfl rfl)) ?_
          refine Ol.p eqi ?_
          refine Ol.p mvb ?_
          refine Ol.gn h4 ?_
          refine Ol.gn h4 ?_
          refine Ol.gn h4 ?_
          refine Ol.gn h4 ?_
          refine Ol.gn h4 ?_
          refine Ol.gn h4 ?_
          refine Ol.gn h4 ?_
          refine Ol.gn h4 ?_
          refine Ol.gn h4 ?_
          refine Ol.gn h4 ?_
          refine Ol.p (pkFb h4) ?_
          refine Ol.p asb ?_
          refine Ol.nil ?_
          refine Cd.ret ⟨.bool _, ret1 rfl rfl, [], .nil, ?_, rfl⟩
          unfold isTerm; rw [h1, h2, h3, h4]; rfl
end
section
theorem slices_Clone_L_int_int_ct {w : World} {A : Option Addr} {c n : Nat} {xs : List Value} (hl : Reads w w.heap.size 1 A n xs) (h1 : ∀ u ∈ xs, u.oneCell' = true) (hb : n < 2 ^ 43) : Ct Tryz.prog 57 #[.slice A n c] w (NewL 3 1 n xs) := by
  refine Ct.mk Tryz.func57 rfl rfl ?_
  refine Cd.seq ?_
  refine Cd.region ?_
  refine Ol.p ass ?_
  refine Ol.nil ?_
  refine Cd.seq ?_
  refine Cd.seq ?_
  refine Cd.region ?_
  refine Ol.p mvs ?_
  refine Ol.p (esn sl_L_int) ?_
  refine Ol.nil ?_
  refine Cd.cond rfl (fun h => ?_) (fun h => ?_)
  · refine Cd.seq ?_
    refine Cd.region ?_
    refine Ol.p ass ?_
    refine Ol.nil ?_
    refine Cd.nr 3 1 ?_
    have h0 : n = 0 := by
      rcases Nat.eq_zero_or_pos n with h0 | h0
      · exact h0
      · obtain ⟨a, rfl, _⟩ := hl.2 h0; cases h
    subst h0
    have hx : xs = [] := List.eq_nil_of_length_eq_zero (by simpa using hl.1)
    subst hx
    refine Cd.ret ⟨.slice none 0 0, ret1 rfl rfl, _, .all, none, 0, rfl, rfl⟩
  · refine Cd.skip ?_
    refine Cd.seq ?_
    refine Cd.region ?_
    refine Ol.x (bsv [] sl_L_int zr_int (by simp)) ?_
    rintro _ _ ⟨g5, rfl, rfl⟩
    refine Ol.p mvs ?_
    refine Ol.x (apn (i := 0) (n := 0) (xs := []) sl_L_int zr_int rfl (by decide) rfl (Src.slc hl) h1 (by unfold maxLen; omega) (by omega)) ?_
    rintro _ _ ⟨A', c', rfl, rfl⟩
    refine Ol.p ass ?_
    refine Ol.nil ?_
    rw [Nat.zero_add]
    refine Cd.ret ⟨.slice A' n c', ret1 rfl rfl, _, .all, A', c', rfl, rfl⟩
end
section
set_option maxHeartbeats 1000000 in
theorem ir_To_ct {w : World} {t : Tm} : Ct Tryz.prog 32 #[t.val] w (NewL 3 1 (toL t).length (ints (toL t))) := by
  refine Ct.mk Tryz.func32 rfl rfl ?_
  refine Cd.seq ?_
  refine Cd.region ?_
  refine Ol.x bxg ?_
  rintro _ _ ⟨g1, rfl, rfl⟩
  refine Ol.p ass ?_
  refine Ol.nil ?_
  refine Cd.seq ?_
  refine Cd.block ?_
  refine Cd.seq ?_
  refine Cd.region ?_
  refine Ol.p (ldw ag_api_Term (i := 0) rfl rfl) ?_
  refine Ol.s (cl en_ir_IsTerm (fun M w' hh => ir_IsTerm_ct (t := t))) ?_
  refine Ol.p noti ?_
  refine Ol.p asb ?_
  refine Ol.nil ?_
  refine Cd.cond rfl (fun h1 => ?_) (fun h1 => ?_)
  · have e : toL t = [] := by unfold toL; cases h : isTerm t <;> simp [h] at h1 ⊢
    rw [e]
    refine Cd.skip ?_
    refine Cd.seq ?_
    refine Cd.region ?_
    refine Ol.p ass ?_
    refine Ol.nil ?_
    refine Cd.nr 3 1 ?_
    refine Cd.ret ⟨.slice none 0 0, ret1 rfl rfl, _, .sub (.cons_cons _ (.cons _ .slnil)), none, 0, rfl, rfl⟩
  · have e1 : isTerm t = true := by simpa using h1
    refine Cd.seq ?_
    refine Cd.region ?_
    refine Ol.p (fdl fd_api_Term_0) ?_
    refine Ol.p (ld one_api_TermKind (Rd.blk (i := 0) rfl rfl)) ?_
    refine Ol.p eqi ?_
    refine Ol.p asb ?_
    refine Ol.nil ?_
    refine Cd.cond rfl (fun h2 => ?_) (fun h2 => ?_)
    · have e : toL t = [t.t0] := by unfold toL; rw [e1, h2]; rfl
      rw [e]
      refine Cd.seq ?_
      refine Cd.region ?_
      refine Ol.p (fdl fd_api_Term_2) ?_
      refine Ol.p (ixl (ix := 0) ar_A2_int) ?_
      refine Ol.p (ld one_int (Rd.blk (i := 0) rfl rfl)) ?_
      refine Ol.x (bsv [.int .i64 t.t0] sl_L_int zr_int (by simp [Value.cells])) ?_
      rintro _ _ ⟨g14, rfl, rfl⟩
      refine Ol.p ass ?_
      refine Ol.nil ?_
      refine Cd.ret ⟨.slice _ _ _, ret1 rfl rfl, _, .sub (.cons_cons _ (.cons _ .slnil)), _, _, rfl, rfl⟩
    · refine Cd.seq ?_
      refine Cd.region ?_
      refine Ol.p (fdl fd_api_Term_0) ?_
      refine Ol.p (ld one_api_TermKind (Rd.blk (i := 0) rfl rfl)) ?_
      refine Ol.p eqi ?_
      refine Ol.p asb ?_
      refine Ol.nil ?_
      refine Cd.cond rfl (fun h3 => ?_) (fun h3 => ?_)
      · have e : toL t = [t.t0, t.t1] := by unfold toL; rw [e1, h2, h3]; rfl
        rw [e]
        refine Cd.seq ?_
        refine Cd.region ?_
        refine Ol.p (fdl fd_api_Term_2) ?_
        refine Ol.p (sla ar_A2_int) ?_
        refine Ol.x (sp_call en_slices_Clone_L_int_int (fun M w' hh => slices_Clone_L_int_int_ct (xs := ints [t.t0, t.t1]) (Reads.blk hh (i := 0) rfl rfl t.tos) (ints_one _) (by simp [ints]))) ?_
        rintro _ _ ⟨_, rfl, A, c, rfl, rfl⟩
        refine Ol.p ass ?_
        refine Ol.nil ?_
        refine Cd.ret ⟨.slice _ _ _, ret1 rfl rfl, _, .sub (.cons_cons _ (.cons _ .slnil)), _, _, rfl, rfl⟩
      · have e : toL t = [] := by unfold toL; rw [e1, h2, h3]; rfl
        rw [e]
        refine Cd.skip ?_
        refine Cd.seq ?_
        refine Cd.region ?_
        refine Ol.p ass ?_
        refine Ol.nil ?_
        refine Cd.nr 3 1 ?_
        refine Cd.ret ⟨.slice none 0 0, ret1 rfl rfl, _, .sub (.cons_cons _ (.cons _ .slnil)), none, 0, rfl, rfl⟩
end
end Go.Proofs.YtcojedoejpcolaaGreat

/- Instructions and whole functions: plain definitions and laws (no program in sight). -/
namespace Go.Proofs.YtcojedoejpcolaaGreat
set_option linter.unusedVariables false
open Go Go.RowKit

/-! ### Instructions -/
structure Shp where
  dst : Bool
  a : Bool
  b : Bool
  imm : Bool
  call : Bool
def shp (o : Int) : Shp × Bool :=
  bif decide (o = 13) then (⟨false, false, false, false, true⟩, true) else bif decide (o = 1) then (⟨true, false, false, true, false⟩, true) else
  bif decide (o = 12) then (⟨false, true, true, true, false⟩, true) else bif decide (o = 11) then (⟨true, true, false, true, false⟩, true) else
  bif decide (o = 14) then (⟨true, true, false, false, false⟩, true) else (⟨true, true, true, false, false⟩, decide (2 ≤ o) && decide (o ≤ 10))
def Shp.cells (s : Shp) : List Value := [.bool s.dst, .bool s.a, .bool s.b, .bool s.imm, .bool s.call]
def Shp.val (s : Shp) : Value := .agg s.cells.toArray
def isIns (i : RIns) : Bool :=
  bif !(shp i.op).2 || !decide (i.many = 0) then false else
  bif (shp i.op).1.call then noneB [i.a, i.b, i.imm] && (decide (0 ≤ i.callee) && decide (i.callee ≤ 99)) && fitsB (!decide (i.dst = 0)) i.dst && decide (i.args.length ≤ 8) && i.args.all varB else
  bif (!(shp i.op).1.imm && !decide (i.imm = 0)) || decide (i.imm < -1099511627776) || decide (1099511627776 < i.imm) then false else
  decide (i.callee = 0) && decide (i.args.length = 0) && fitsB (shp i.op).1.dst i.dst && fitsB (shp i.op).1.a i.a && fitsB (shp i.op).1.b i.b
def readsL (i : RIns) : List Int := bif isIns i then [i.a, i.b].filter (fun n => !decide (n = 0)) ++ i.args else []
def defI (i : RIns) : Int := bif isIns i then i.dst else 0
def needsL (t : Tm) : List Int := bif isTerm t && !decide (t.a = 0) then [t.a] else []
theorem varB_iff {n : Int} : varB n = true ↔ 1 ≤ n ∧ n ≤ 200 := by simp [varB]
theorem fitsB_var {h : Bool} {n : Int} (hf : fitsB h n = true) : n = 0 ∨ (1 ≤ n ∧ n ≤ 200) := by
  cases h <;> simp [fitsB, varB] at hf
  · exact .inl hf
  · exact .inr hf
theorem isIns_parts {i : RIns} (h : isIns i = true) : (i.dst = 0 ∨ (1 ≤ i.dst ∧ i.dst ≤ 200)) ∧ (i.a = 0 ∨ (1 ≤ i.a ∧ i.a ≤ 200)) ∧ (i.b = 0 ∨ (1 ≤ i.b ∧ i.b ≤ 200)) ∧ (∀ n ∈ i.args, 1 ≤ n ∧ n ≤ 200) ∧ i.args.length ≤ 8 := by
  unfold isIns at h
  cases h1 : (!(shp i.op).2 || !decide (i.many = 0)) with
  | true => rw [h1] at h; cases h
  | false =>
    rw [h1, cond_false] at h
    cases h2 : (shp i.op).1.call with
    | true =>
      rw [h2, cond_true] at h
      simp only [Bool.and_eq_true, decide_eq_true_eq, noneB, List.all_cons, List.all_nil, Bool.and_true, List.all_eq_true] at h
      obtain ⟨⟨⟨⟨⟨ha, hb, _⟩, _⟩, hd⟩, hl⟩, hr⟩ := h
      refine ⟨fitsB_var hd, .inl ha, .inl hb, fun n hn => varB_iff.1 (hr n hn), hl⟩
    | false =>
      rw [h2, cond_false] at h
      cases h3 : ((!(shp i.op).1.imm && !decide (i.imm = 0)) || decide (i.imm < -1099511627776) || decide (1099511627776 < i.imm)) with
      | true => rw [h3] at h; cases h
      | false =>
        rw [h3, cond_false] at h
        simp only [Bool.and_eq_true, decide_eq_true_eq] at h
        obtain ⟨⟨⟨⟨_, hl⟩, hd⟩, ha⟩, hb⟩ := h
        refine ⟨fitsB_var hd, fitsB_var ha, fitsB_var hb, fun n hn => ?_, by omega⟩
        rw [List.eq_nil_of_length_eq_zero hl] at hn
        cases hn
theorem readsL_mem {i : RIns} {n : Int} (h : n ∈ readsL i) : 1 ≤ n ∧ n ≤ 200 := by
  unfold readsL at h
  cases hi : isIns i with
  | false => rw [hi] at h; cases h
  | true =>
    rw [hi, cond_true] at h
    obtain ⟨_, ha, hb, hr, _⟩ := isIns_parts hi
    rcases List.mem_append.1 h with h | h
    · simp only [List.mem_filter, List.mem_cons, List.not_mem_nil, or_false, Bool.not_eq_true', decide_eq_false_iff_not] at h
      rcases h with ⟨rfl | rfl, h0⟩ <;> omega
    · exact hr n h
theorem readsL_len (i : RIns) : (readsL i).length ≤ 10 := by
  unfold readsL
  cases hi : isIns i with
  | false => simp
  | true =>
    rw [cond_true, List.length_append]
    have := (isIns_parts hi).2.2.2.2
    have h2 : ([i.a, i.b].filter (fun n => !decide (n = 0))).length ≤ [i.a, i.b].length := List.length_filter_le _ _
    simp only [List.length_cons, List.length_nil] at h2
    omega
theorem defI_range (i : RIns) : 0 ≤ defI i ∧ defI i ≤ 200 := by
  unfold defI
  cases hi : isIns i with
  | false => simp
  | true => rw [cond_true]; have := (isIns_parts hi).1; omega
theorem isTerm_a {t : Tm} (h : isTerm t = true) : t.a = 0 ∨ (1 ≤ t.a ∧ t.a ≤ 200) := by
  unfold isTerm at h
  cases h1 : decide (t.kind = 1) with
  | true => rw [h1, cond_true] at h; simp [noneB] at h; exact .inl h.1
  | false =>
    rw [h1, cond_false] at h
    cases h2 : decide (t.kind = 2) with
    | true => rw [h2, cond_true] at h; exact .inr (varB_iff.1 h)
    | false =>
      rw [h2, cond_false] at h
      cases h3 : decide (t.kind = 3) with
      | true => rw [h3, cond_true, Bool.and_eq_true] at h; exact fitsB_var h.1
      | false => rw [h3, cond_false] at h; simp [noneB] at h; exact .inl h.2.1
theorem needsL_mem {t : Tm} {n : Int} (h : n ∈ needsL t) : n = t.a ∧ 1 ≤ n ∧ n ≤ 200 := by
  unfold needsL at h
  cases hi : isTerm t && !decide (t.a = 0) with
  | false => rw [hi] at h; cases h
  | true =>
    rw [hi, cond_true] at h
    have : n = t.a := by simpa using h
    subst this
    simp only [Bool.and_eq_true, Bool.not_eq_true', decide_eq_false_iff_not] at hi
    have := isTerm_a hi.1
    exact ⟨rfl, by omega, by omega⟩
theorem needsL_len (t : Tm) : (needsL t).length ≤ 1 := by
  unfold needsL
  cases isTerm t && !decide (t.a = 0) <;> simp

/-! ### Sets of variables: arrays of 201 truths -/
abbrev VS := Nat → Bool
def encV (f : VS) : Array Value := ((List.range 201).map fun i => Value.bool (f i)).toArray
theorem encV_size (f : VS) : (encV f).size = 201 := by simp [encV]
theorem encV_get {f : VS} {i : Nat} (h : i < 201) : (encV f)[i]? = some (.bool (f i)) := by simp [encV, h]
def putV (f : VS) (k : Nat) (b : Bool) : VS := fun i => if i = k then b else f i
theorem encV_set {f : VS} {k : Nat} {b : Bool} : (encV f).setIfInBounds k (.bool b) = encV (putV f k b) := by
  apply Array.ext
  · simp [encV]
  · intro i h1 h2
    simp only [encV, List.setIfInBounds_toArray, List.getElem_toArray, putV]
    rw [List.getElem_set]
    by_cases h : k = i
    · subst h; simp
    · rw [if_neg h]; simp [Ne.symm h]
theorem encV_congr {f g : VS} (h : ∀ i, i < 201 → f i = g i) : encV f = encV g := by
  unfold encV
  congr 1
  apply List.map_congr_left
  intro i hi
  rw [h i (by simpa using hi)]
theorem encV_inj {f g : VS} (h : encV f = encV g) {i : Nat} (hi : i < 201) : f i = g i := by
  have h1 : (encV f)[i]? = (encV g)[i]? := by rw [h]
  rw [encV_get hi, encV_get hi] at h1
  simpa using h1
theorem encV_one (f : VS) : ∀ u ∈ (encV f).toList, u.oneCell' = true := by
  intro u hu
  simp only [encV, List.mem_map] at hu
  obtain ⟨i, _, rfl⟩ := hu
  rfl
def hasV (f : VS) (l : List Int) : Bool := l.all fun v => f v.toNat
def putsV (f : VS) (l : List Int) (b : Bool) : VS := l.foldl (fun f v => putV f v.toNat b) f

/-! ### Whole functions -/
def longF (f : RFun) : Bool := decide (f.blocks.length = 0) || decide (200 < f.blocks.length) || decide (8 < f.params.length) || f.blocks.any fun b => decide (64 < b.ins.length)
def wholeB (b : RBlk) : Bool := isTerm b.term && b.ins.all isIns
def wholeF (f : RFun) : Bool := f.params.all varB && decide f.params.Nodup && f.blocks.all wholeB
/-- Is v read from here on, ahead of being defined? -/
def exposed : List RIns → Tm → Int → Bool
  | [], t, v => (needsL t).contains v
  | i :: l, t, v => (readsL i).contains v || (!decide (defI i = v) && exposed l t v)
def defines (l : List RIns) (v : Int) : Bool := l.any fun i => decide (defI i = v)
end Go.Proofs.YtcojedoejpcolaaGreat

/- Further rules: parts of tuples, conversions with known results, copy, appending to what is new. Over any program. -/
namespace Go.Proofs.YtcojedoejpcolaaGreat
set_option linter.unusedVariables false
open Go Go.RowKit

theorem extv {P : Program} {w0 : World} {B : Nat} {σ : Env} {L : List Res} {d : Option Nat} {ty : TypeId} {pos : String} {af : Array Edge} {gd : Option (Nat × Bool)} {x : Operand} {v : Value} {vs : Array Value} {i : Nat} (hx : ev σ x = .tuple vs := by exact rfl) (hv : vs[i]? = some v := by exact rfl) : Sd P w0 B ⟨d, .extract x i, ty, pos, af, gd⟩ σ L (v) := exti hv hx
theorem cvx {P : Program} {w0 : World} {B : Nat} {σ : Env} {L : List Res} {d : Option Nat} {ty T u : TypeId} {pos : String} {af : Array Edge} {gd : Option (Nat × Bool)} {x : Operand} {k k2 : IntKind} {a r : Int} {t : TypeDesc} (hs : P.underlying T = some t) (hd : InT P u k2) (hr : k2.wrap a = r) (hx : ev σ x = .int k a := by exact rfl) : Sd P w0 B ⟨d, .convert T u x, ty, pos, af, gd⟩ σ L ((.int k2 r)) := by
  rw [← hr]; exact cvw hs hd hx
theorem cpb {P : Program} {w0 : World} {B : Nat} {σ : Env} {L : List Res} {d : Option Nat} {ty T T2 : TypeId} {pos : String} {af : Array Edge} {gd : Option (Nat × Bool)} {x y : Operand} {i g off n c e s b m c2 q : Nat} {A2 : Option Addr} {cs : Array Value} {ys : List Value} (hT : SlT P T e s b) (hi : L[i]? = some (blk g (.cells cs e))) (hsrc : Src w0 B L A2 m s ys) (h1 : ∀ u ∈ ys, u.oneCell' = true) (hq : q = Nat.min m n) (hfit : off + q * s ≤ cs.size)
    (hx : ev σ x = .slice (some ⟨g, off, none⟩) n c := by exact rfl) (hy : ev σ y = .slice A2 m c2 := by exact rfl) :
    Sp P w0 B ⟨d, .call { callee := .builtin .copy, args := #[x, y], argTypes := #[T, T2] }, ty, pos, af, gd⟩ σ L (det (.int .i64 q) (L.set i (blk g (.cells ((cs.toList.take off ++ ys.take (q * s) ++ cs.toList.drop (off + q * s)).toArray) e)))) := fun M w hh => by
  obtain ⟨inf, hi1, he⟩ := info_of hT.2
  simp only [Prod.mk.injEq] at he
  have hlen := hsrc.1
  have hqm : q ≤ m := by rw [hq]; exact Nat.min_le_left _ _
  have hys : (ys.take (q * s)).length = q * s := by
    rw [List.length_take, hlen]
    exact Nat.min_eq_left (Nat.mul_le_mul_right _ hqm)
  have hc : (Builtin.firstCells inf.size q (.slice A2 m c2)).run P w = .ok (ys.take (q * s)).toArray w := by
    rcases hsrc.2 M w hh with ⟨rfl, rfl⟩ | ⟨a, rfl, hcell⟩
    · have : q = 0 := by omega
      subst this
      rw [run_firstCells_none]; simp
    · refine run_firstCells_some (P := P) w inf.size q a m c2 _ (by rw [hys, he.1]) fun j v hj => ?_
      rw [List.getElem?_take] at hj
      split at hj
      · exact hcell j v hj
      · cases hj
  obtain ⟨w', hr, hst, hb⟩ := run_storeCells_all (P := P) (g := g) (e := e) (ys.take (q * s)) off 0 cs w (hh.at_ hi) (by rw [hys]; omega) (fun u hu => h1 u (List.mem_of_mem_take hu))
  rw [hys] at hb
  simp only [Nat.add_zero] at hb
  refine .inl ⟨.int .i64 q, w', ?_, _, hh.set (r' := blk g (.cells ((cs.toList.take off ++ ys.take (q * s) ++ cs.toList.drop (off + q * s)).toArray) e)) hi hst hb (fun _ hk => .inl hk), rfl, rfl⟩
  simp only [execOp, resolve, invoke, builtin, Sem.run_bind, Sem.run_pure, Result.andThen_ok, List.map_toArray, List.map_cons, List.map_nil, hx, hy]
  have hsz : (sizeOf e).run P w = .ok inf.size w := run_size (by simp [hi1]) w
  have : (Builtin.copy_ #[T, T2] ty #[.slice (some ⟨g, off, none⟩) n c, .slice A2 m c2]).run P w = .ok (.int .i64 q) w' := by
    simp only [Builtin.copy_]
    simp only [Sem.run_bind, run_underlying hT.1, Result.andThen_ok, Builtin.lenOf, Sem.run_pure, hsz, List.getElem?_toArray, List.getElem?_cons_zero, List.getElem?_cons_succ]
    rw [← hq, hc]
    simp only [Result.andThen_ok]
    rw [hr]
    rfl
  rw [this]
  rfl
theorem Grow.adds {P : Program} {w0 : World} {B : Nat} {σ : Env} {r : Res} {L : List Res} {o : Oper} {e s n : Nat} {xs : List Value} (h : Sp P w0 B o σ (r :: L) (Grow 0 e s n xs (r :: L))) : Sp P w0 B o σ (r :: L) (Adds (NewL e s n xs) L) := fun M w hh =>
  Goes.mono (h M w hh) fun v w' ⟨L', h1, A, c, h2, h3⟩ => ⟨L', h1, [row (.slice A n c) e s n xs], h3, A, c, h2, rfl⟩
theorem ap0 {P : Program} {w0 : World} {B : Nat} {σ : Env} {L : List Res} {d : Option Nat} {ty T : TypeId} {pos : String} {af : Array Edge} {gd : Option (Nat × Bool)} {x y : Operand} {e s b c m c2 : Nat} {A A2 : Option Addr} {ys : List Value} {zv : Value} (hT : SlT P T e s b) (hz : ZrT P e zv) (hzs : zv.cells.size = s) (hs0 : 0 < s) (hsrc : Src w0 B (row (.slice A 0 c) e s 0 [] :: L) A2 m s ys)
    (h1 : ∀ u ∈ ys, u.oneCell' = true) (hml : m ≤ maxLen) (hby : m * b ≤ 140737488355328) (hx : ev σ x = .slice A 0 c := by exact rfl) (hy : ev σ y = .slice A2 m c2 := by exact rfl) :
    Sp P w0 B ⟨d, .call { callee := .builtin .append, args := #[x, y], argTypes := #[T, T] }, ty, pos, af, gd⟩ σ (row (.slice A 0 c) e s 0 [] :: L) (Adds (NewL e s m ys) L) := by
  have := Grow.adds (apn (d := d) (ty := ty) (pos := pos) (af := af) (gd := gd) (i := 0) (n := 0) (m := m) (L := row (.slice A 0 c) e s 0 [] :: L) hT hz hzs hs0 rfl hsrc h1 (by omega) (by rw [Nat.zero_add]; exact hby) hx hy)
  rw [Nat.zero_add, List.nil_append] at this
  exact this
/-- One that was there has been turned. -/
def Trn (v : Value) (r : Res) : Value → List Res → Prop := fun v' R => v' = v ∧ R = [r]
theorem det.trn {P : Program} {w0 : World} {B : Nat} {σ : Env} {r r' : Res} {L : List Res} {o : Oper} {v : Value} (h : Sp P w0 B o σ (r :: L) (det v (r' :: L))) : Sp P w0 B o σ (r :: L) (Adds (Trn v r') L) := fun M w hh =>
  Goes.mono (h M w hh) fun v w' ⟨L', h1, h2, h3⟩ => ⟨L', h1, [r'], h3, h2, rfl⟩
end Go.Proofs.YtcojedoejpcolaaGreat

/- The package ir: instructions, what they read and define; ends, what they need: walked. -/
namespace Go.Proofs.YtcojedoejpcolaaGreat
set_option linter.unusedVariables false
open Go Go.RowKit
set_option maxRecDepth 100000

theorem uint_le99 {n : Int} (h : -9223372036854775808 ≤ n ∧ n ≤ 9223372036854775807) : decide (IntKind.u64.wrap n ≤ 99) = (decide (0 ≤ n) && decide (n ≤ 99)) := by
  rw [Bool.eq_iff_iff, Bool.and_eq_true, decide_eq_true_iff, decide_eq_true_iff, decide_eq_true_iff]
  have : IntKind.u64.wrap n = n % 18446744073709551616 := rfl
  rw [this]
  constructor
  · intro h1; omega
  · intro h1; omega
/-- An instruction that can be read. -/
structure InsAt (w : World) (i : RIns) : Prop where
  args : Reads w w.heap.size 1 i.aA i.args.length (ints i.args)
  len : i.args.length < 2 ^ 50
  callee : -9223372036854775808 ≤ i.callee ∧ i.callee ≤ 9223372036854775807
theorem InsAt.now {w0 w : World} {L : List Res} {i : RIns} (h : InsAt w0 i) (hh : Hp w0 w0.heap.size L w) : InsAt w i := ⟨h.args.now hh, h.len, h.callee⟩
theorem not_any_var (l : List Int) : (!l.any fun v => !varB v) = l.all varB := by
  rw [List.not_any_eq_all_not]
  congr 1
  funext v
  simp
theorem shp_one (s : Shp) : ∀ u ∈ s.cells, u.oneCell' = true := by
  intro u hu
  unfold Shp.cells at hu
  simp only [List.mem_cons, List.not_mem_nil, or_false] at hu
  rcases hu with rfl | rfl | rfl | rfl | rfl <;> rfl
section
theorem ir_shaped_ct {w : World} {o : Int} : Ct Tryz.prog 70 #[.int .i64 o] w (Is (.tuple #[(shp o).1.val, .bool (shp o).2])) := by
  refine Ct.mk Tryz.func70 rfl rfl ?_
  refine Cd.seq ?_
  refine Cd.region ?_
  refine Ol.x (alc zr_ir_shape) ?_
  rintro _ _ ⟨g2, rfl, rfl⟩
  refine Ol.p asb ?_
  refine Ol.nil ?_
  refine Cd.seq ?_
  refine Cd.seq ?_
  refine Cd.region ?_
  refine Ol.p mvi ?_
  refine Ol.nil ?_
  refine Cd.block ?_   -- 0
  refine Cd.mid (fun σ' L' => ((o = 11 ∧ L' = [blk g2 (.cells #[.bool false, .bool false, .bool false, .bool true, .bool false] 110)]) ∨ (o = 14 ∧ L' = [blk g2 (.cells #[.bool false, .bool false, .bool false, .bool false, .bool false] 110)])) ∧ Has σ' [(2, .pointer (some ⟨g2, 0, none⟩))] ∧ o ≠ 13 ∧ o ≠ 1 ∧ o ≠ 12) ?_ ?_
  · refine Cd.block ?_   -- 5
    refine Cd.seq ?_
    refine Cd.block ?_   -- 4
    refine Cd.seq ?_
    refine Cd.block ?_   -- 3
    refine Cd.seq ?_
    refine Cd.block ?_   -- 2
    refine Cd.seq ?_
    refine Cd.block ?_   -- 1
    refine Cd.seq ?_
    refine Cd.seq ?_
    refine Cd.seq ?_
    refine Cd.region ?_
    refine Ol.p eqi ?_
    refine Ol.p asb ?_
    refine Ol.nil ?_
    refine Cd.cond rfl (fun h13 => ?_) (fun h13 => ?_)   -- $5
    · refine Cd.exit (id := 1) ?_
      refine Cd.seq ?_
      refine Cd.seq ?_
      refine Cd.region ?_
      refine Ol.p (bds bs_ir_shape zr_ir_shape) ?_
      refine Ol.s (stw (vs := (Shp.cells ⟨false,false,false,false,true⟩).toArray) sz_ir_shape rfl (shp_one ⟨false,false,false,false,true⟩) (i := 0) rfl rfl) ?_
      refine Ol.p asb ?_
      refine Ol.nil ?_
      refine Cd.ret ⟨.tuple _, retct rfl ag_ir_shape rfl rfl (i := 0) rfl rfl, [], .nil, ?_, rfl⟩
      unfold shp; rw [h13]; rfl
    refine Cd.skip ?_
    refine Cd.seq ?_
    refine Cd.seq ?_
    refine Cd.region ?_
    refine Ol.p eqi ?_
    refine Ol.p asb ?_
    refine Ol.nil ?_
    refine Cd.cond rfl (fun h1 => ?_) (fun h1 => ?_)   -- $7
    · refine Cd.exit (id := 2) ?_
      refine Cd.seq ?_
      refine Cd.seq ?_
      refine Cd.region ?_
      refine Ol.p (bds bs_ir_shape zr_ir_shape) ?_
      refine Ol.s (stw (vs := (Shp.cells ⟨true,false,false,true,false⟩).toArray) sz_ir_shape rfl (shp_one ⟨true,false,false,true,false⟩) (i := 0) rfl rfl) ?_
      refine Ol.p asb ?_
      refine Ol.nil ?_
      refine Cd.ret ⟨.tuple _, retct rfl ag_ir_shape rfl rfl (i := 0) rfl rfl, [], .nil, ?_, rfl⟩
      unfold shp; rw [h13, h1]; rfl
    refine Cd.skip ?_
    refine Cd.seq ?_
    refine Cd.seq ?_
    refine Cd.region ?_
    refine Ol.p eqi ?_
    refine Ol.p asb ?_
    refine Ol.nil ?_
    refine Cd.cond rfl (fun h12 => ?_) (fun h12 => ?_)   -- $9
    · refine Cd.exit (id := 3) ?_
      refine Cd.seq ?_
      refine Cd.seq ?_
      refine Cd.region ?_
      refine Ol.p (bds bs_ir_shape zr_ir_shape) ?_
      refine Ol.s (stw (vs := (Shp.cells ⟨false,true,true,true,false⟩).toArray) sz_ir_shape rfl (shp_one ⟨false,true,true,true,false⟩) (i := 0) rfl rfl) ?_
      refine Ol.p asb ?_
      refine Ol.nil ?_
      refine Cd.ret ⟨.tuple _, retct rfl ag_ir_shape rfl rfl (i := 0) rfl rfl, [], .nil, ?_, rfl⟩
      unfold shp; rw [h13, h1, h12]; rfl
    have n13 : o ≠ 13 := by simpa using h13
    have n1 : o ≠ 1 := by simpa using h1
    have n12 : o ≠ 12 := by simpa using h12
    refine Cd.skip ?_
    refine Cd.seq ?_
    refine Cd.seq ?_
    refine Cd.region ?_
    refine Ol.p eqi ?_
    refine Ol.p asb ?_
    refine Ol.nil ?_
    refine Cd.cond rfl (fun h11 => ?_) (fun h11 => ?_)   -- $11
    · refine Cd.exit (id := 4) ?_
      refine Cd.region ?_
      refine Ol.p (fdl fd_ir_shape_3) ?_
      refine Ol.s (sto (k := 3) (.inr sz_bool) rfl rfl (i := 0) rfl (by exact (by decide : 3 < 5)) rfl) ?_
      refine Ol.nil ?_
      exact ⟨.inl ⟨by simpa using h11, rfl⟩, ⟨rfl, trivial⟩, n13, n1, n12⟩
    refine Cd.skip ?_
    refine Cd.seq ?_
    refine Cd.region ?_
    refine Ol.p eqi ?_
    refine Ol.p asb ?_
    refine Ol.nil ?_
    refine Cd.cond rfl (fun h14 => ?_) (fun h14 => ?_)   -- $13
    · refine Cd.exit (id := 5) ?_
      exact ⟨.inr ⟨by simpa using h14, rfl⟩, ⟨rfl, trivial⟩, n13, n1, n12⟩
    refine Cd.skip ?_
    refine Cd.exit (id := 0) ?_
    refine Cd.seq ?_
    cases h2 : decide (2 ≤ o) with
    | true =>
      refine Cd.region ?_
      refine Ol.p (bds bs_ir_shape zr_ir_shape) ?_
      refine Ol.p mvi ?_
      refine Ol.p gei ?_
      refine Ol.p mvb ?_
      refine Ol.gp h2 mvi ?_
      refine Ol.gp h2 lei ?_
      refine Ol.p (pkTb h2) ?_
      refine Ol.s (stw (vs := (Shp.cells ⟨true,true,true,false,false⟩).toArray) sz_ir_shape rfl (shp_one ⟨true,true,true,false,false⟩) (i := 0) rfl rfl) ?_
      refine Ol.p asb ?_
      refine Ol.nil ?_
      refine Cd.ret ⟨.tuple _, retct rfl ag_ir_shape rfl rfl (i := 0) rfl rfl, [], .nil, ?_, rfl⟩
      unfold shp; rw [h13, h1, h12, h11, h14, h2]; rfl
    | false =>
      refine Cd.region ?_
      refine Ol.p (bds bs_ir_shape zr_ir_shape) ?_
      refine Ol.p mvi ?_
      refine Ol.p gei ?_
      refine Ol.p mvb ?_
      refine Ol.gn h2 ?_
      refine Ol.gn h2 ?_
      refine Ol.p (pkFb h2) ?_
      refine Ol.s (stw (vs := (Shp.cells ⟨true,true,true,false,false⟩).toArray) sz_ir_shape rfl (shp_one ⟨true,true,true,false,false⟩) (i := 0) rfl rfl) ?_
      refine Ol.p asb ?_
      refine Ol.nil ?_
      refine Cd.ret ⟨.tuple _, retct rfl ag_ir_shape rfl rfl (i := 0) rfl rfl, [], .nil, ?_, rfl⟩
      unfold shp; rw [h13, h1, h12, h11, h14, h2]; rfl
  rintro σ' _ ⟨hcs, hs', n13, n1, n12⟩
  rcases hcs with ⟨rfl, rfl⟩ | ⟨rfl, rfl⟩
  · refine Cd.has hs' ?_
    refine Cd.seq ?_
    refine Cd.seq ?_
    refine Cd.region ?_
    refine Ol.p (fdl fd_ir_shape_0) ?_
    refine Ol.s (sto (k := 0) (.inr sz_bool) rfl rfl (i := 0) rfl (by exact (by decide : 0 < 5)) rfl) ?_
    refine Ol.p (fdl fd_ir_shape_1) ?_
    refine Ol.s (sto (k := 1) (.inr sz_bool) rfl rfl (i := 0) rfl (by exact (by decide : 1 < 5)) rfl) ?_
    refine Ol.nil ?_
    refine Cd.seq ?_
    refine Cd.region ?_
    refine Ol.p (ldw ag_ir_shape (i := 0) rfl rfl) ?_
    refine Ol.s (stw (vs := (Shp.cells ⟨true,true,false,true,false⟩).toArray) sz_ir_shape rfl (shp_one ⟨true,true,false,true,false⟩) (i := 0) rfl rfl) ?_
    refine Ol.p asb ?_
    refine Ol.nil ?_
    exact Cd.ret ⟨.tuple _, retct rfl ag_ir_shape rfl rfl (i := 0) rfl rfl, [], .nil, rfl, rfl⟩
  · refine Cd.has hs' ?_
    refine Cd.seq ?_
    refine Cd.seq ?_
    refine Cd.region ?_
    refine Ol.p (fdl fd_ir_shape_0) ?_
    refine Ol.s (sto (k := 0) (.inr sz_bool) rfl rfl (i := 0) rfl (by exact (by decide : 0 < 5)) rfl) ?_
    refine Ol.p (fdl fd_ir_shape_1) ?_
    refine Ol.s (sto (k := 1) (.inr sz_bool) rfl rfl (i := 0) rfl (by exact (by decide : 1 < 5)) rfl) ?_
    refine Ol.nil ?_
    refine Cd.seq ?_
    refine Cd.region ?_
    refine Ol.p (ldw ag_ir_shape (i := 0) rfl rfl) ?_
    refine Ol.s (stw (vs := (Shp.cells ⟨true,true,false,false,false⟩).toArray) sz_ir_shape rfl (shp_one ⟨true,true,false,false,false⟩) (i := 0) rfl rfl) ?_
    refine Ol.p asb ?_
    refine Ol.nil ?_
    exact Cd.ret ⟨.tuple _, retct rfl ag_ir_shape rfl rfl (i := 0) rfl rfl, [], .nil, rfl, rfl⟩
theorem ir_IsIns_1_ct {w : World} {n : Int} : Ct Tryz.prog 71 #[.int .i64 n] w (Is (.bool (!varB n))) := by
  refine Ct.mk Tryz.func71 rfl rfl ?_
  refine Cd.seq ?_
  refine Cd.region ?_
  refine Ol.p asb ?_
  refine Ol.nil ?_
  refine Cd.seq ?_
  refine Cd.region ?_
  refine Ol.p mvi ?_
  refine Ol.s (cl en_ir_variable (fun M w' hh => ir_variable_ct)) ?_
  refine Ol.p noti ?_
  refine Ol.p asb ?_
  refine Ol.nil ?_
  exact Cd.ret ⟨.bool _, ret1 rfl rfl, [], .nil, rfl, rfl⟩
set_option maxHeartbeats 2000000 in
theorem ir_IsIns_ct {w : World} {i : RIns} (hi : InsAt w i) : Ct Tryz.prog 33 #[i.val] w (Is (.bool (isIns i))) := by
  have hl8 : decide ((i.args.length : Int) ≤ 8) = decide (i.args.length ≤ 8) := by rw [decide_eq_decide]; omega
  have hl0 : decide ((i.args.length : Int) = 0) = decide (i.args.length = 0) := by rw [decide_eq_decide]; omega
  have hcal := uint_le99 hi.callee
  have hlen : i.args.length < 2 ^ 62 := by have := hi.len; omega
  refine Ct.mk Tryz.func33 rfl rfl ?_
  refine Cd.seq ?_
  refine Cd.region ?_
  refine Ol.x bxg ?_
  rintro _ _ ⟨g1, rfl, rfl⟩
  refine Ol.p asb ?_
  refine Ol.nil ?_
  refine Cd.seq ?_
  refine Cd.region ?_
  refine Ol.p (fdl fd_api_Ins_0) ?_
  refine Ol.p (ld one_api_Op (Rd.blk (i := 0) rfl rfl)) ?_
  refine Ol.s (cl en_ir_shaped (fun M w' hh => ir_shaped_ct (o := i.op))) ?_
  refine Ol.p mvt ?_
  refine Ol.p extv ?_
  refine Ol.p extv ?_
  refine Ol.x (alc zr_ir_shape) ?_
  rintro _ _ ⟨g3, rfl, rfl⟩
  refine Ol.s (stw (vs := (shp i.op).1.cells.toArray) sz_ir_shape rfl (shp_one _) (i := 0) rfl rfl) ?_
  refine Ol.p asb ?_
  refine Ol.nil ?_
  refine Cd.seq ?_
  obtain ⟨S, hS⟩ : ∃ S, S = (shp i.op).1 := ⟨_, rfl⟩
  rw [← hS]
  cases h2 : (shp i.op).2 with
  | false =>
    have hg : (!(shp i.op).2) = true := by rw [h2]; rfl
    refine Cd.seq ?_
    refine Cd.region ?_
    refine Ol.p mvb ?_
    refine Ol.p noti ?_
    refine Ol.p mvb ?_
    refine Ol.gn rfl ?_
    refine Ol.gn rfl ?_
    refine Ol.gn rfl ?_
    refine Ol.p (pkTb rfl) ?_
    refine Ol.nil ?_
    refine Cd.cond rfl (fun h => ?_) (fun h => by cases h)   -- $18
    refine Cd.seq ?_
    refine Cd.region ?_
    refine Ol.p asb ?_
    refine Ol.nil ?_
    refine Cd.ret ⟨.bool _, ret1 rfl rfl, [], .nil, ?_, rfl⟩
    unfold isIns; rw [h2]; rfl
  | true =>
  refine Cd.seq ?_
  refine Cd.region ?_
  refine Ol.p mvb ?_
  refine Ol.p noti ?_
  refine Ol.p mvb ?_
  refine Ol.gp rfl (fdl fd_api_Ins_7) ?_
  refine Ol.gp rfl (ld one_int (Rd.blk (i := 1) rfl rfl)) ?_
  refine Ol.gp rfl nei ?_
  refine Ol.p (pkFb rfl) ?_
  refine Ol.nil ?_
  refine Cd.cond rfl (fun h => ?_) (fun h => ?_)   -- $18
  · refine Cd.seq ?_
    refine Cd.region ?_
    refine Ol.p asb ?_
    refine Ol.nil ?_
    refine Cd.ret ⟨.bool _, ret1 rfl rfl, [], .nil, ?_, rfl⟩
    unfold isIns; rw [h2, h]; rfl
  have hm : decide (i.many = 0) = true := by simpa using h
  refine Cd.skip ?_
  refine Cd.seq ?_
  refine Cd.seq ?_
  refine Cd.region ?_
  refine Ol.p (fdl fd_ir_shape_4) ?_
  refine Ol.p (ld one_bool (Rd.blk (i := 0) rfl rfl)) ?_
  refine Ol.nil ?_
  refine Cd.cond rfl (fun hc => ?_) (fun hc => ?_)   -- $20
  · have e : isIns i = (noneB [i.a, i.b, i.imm] && (decide (0 ≤ i.callee) && decide (i.callee ≤ 99)) && fitsB (!decide (i.dst = 0)) i.dst && decide (i.args.length ≤ 8) && i.args.all varB) := by
      unfold isIns; rw [h2, hm, ← hS, hc]; rfl
    refine Cd.seq ?_
    refine Cd.region ?_
    refine Ol.p (as_ rfl) ?_
    refine Ol.nil ?_
    refine Cd.seq ?_
    cases c1 : noneB [i.a, i.b, i.imm] with
    | false =>
      refine Cd.region ?_
      refine Ol.p (fdl fd_api_Ins_2) ?_
      refine Ol.p (ld one_int (Rd.blk (i := 1) rfl rfl)) ?_
      refine Ol.p (fdl fd_api_Ins_3) ?_
      refine Ol.p (ld one_int (Rd.blk (i := 1) rfl rfl)) ?_
      refine Ol.p (fdl fd_api_Ins_4) ?_
      refine Ol.p (ld one_int (Rd.blk (i := 1) rfl rfl)) ?_
      refine Ol.x (bsv [.int .i64 i.a, .int .i64 i.b, .int .i64 i.imm] sl_L_int zr_int (by simp [Value.cells])) ?_
      rintro _ _ ⟨g27, rfl, rfl⟩
      refine Ol.s (cl en_ir_none (fun M w' hh => ir_none_ct (l := [i.a, i.b, i.imm]) (Reads.row hh (i := 0) rfl) (by simp))) ?_
      refine Ol.p mvb ?_
      refine Ol.gn c1 ?_
      refine Ol.gn c1 ?_
      refine Ol.gn c1 ?_
      refine Ol.gn c1 ?_
      refine Ol.p (pkFb c1) ?_
      refine Ol.p mvb ?_
      refine Ol.gn rfl ?_
      refine Ol.gn rfl ?_
      refine Ol.gn rfl ?_
      refine Ol.gn rfl ?_
      refine Ol.gn rfl ?_
      refine Ol.gn rfl ?_
      refine Ol.p (pkFb rfl) ?_
      refine Ol.p mvb ?_
      refine Ol.gn rfl ?_
      refine Ol.gn rfl ?_
      refine Ol.gn rfl ?_
      refine Ol.gn rfl ?_
      refine Ol.p (pkFb rfl) ?_
      refine Ol.p mvb ?_
      refine Ol.gn rfl ?_
      refine Ol.gn rfl ?_
      refine Ol.gn rfl ?_
      refine Ol.gn rfl ?_
      refine Ol.gn rfl ?_
      refine Ol.p (pkFb rfl) ?_
      refine Ol.p asb ?_
      refine Ol.nil ?_
      exact Cd.ret ⟨.bool _, ret1 rfl rfl, [], .nil, by rw [e, c1]; rfl, rfl⟩
    | true =>
    cases c2 : decide (0 ≤ i.callee) && decide (i.callee ≤ 99) with
    | false =>
      refine Cd.region ?_
      refine Ol.p (fdl fd_api_Ins_2) ?_
      refine Ol.p (ld one_int (Rd.blk (i := 1) rfl rfl)) ?_
      refine Ol.p (fdl fd_api_Ins_3) ?_
      refine Ol.p (ld one_int (Rd.blk (i := 1) rfl rfl)) ?_
      refine Ol.p (fdl fd_api_Ins_4) ?_
      refine Ol.p (ld one_int (Rd.blk (i := 1) rfl rfl)) ?_
      refine Ol.x (bsv [.int .i64 i.a, .int .i64 i.b, .int .i64 i.imm] sl_L_int zr_int (by simp [Value.cells])) ?_
      rintro _ _ ⟨g27, rfl, rfl⟩
      refine Ol.s (cl en_ir_none (fun M w' hh => ir_none_ct (l := [i.a, i.b, i.imm]) (Reads.row hh (i := 0) rfl) (by simp))) ?_
      refine Ol.p mvb ?_
      refine Ol.gp c1 (fdl fd_api_Ins_5) ?_
      refine Ol.gp c1 (ld one_int (Rd.blk (i := 2) rfl rfl)) ?_
      refine Ol.gp c1 (cvw in_int in_uint) ?_
      refine Ol.gp c1 lei ?_
      refine Ol.p (pkTb c1) ?_
      refine Ol.p mvb ?_
      refine Ol.gn (hcal.trans c2) ?_
      refine Ol.gn (hcal.trans c2) ?_
      refine Ol.gn (hcal.trans c2) ?_
      refine Ol.gn (hcal.trans c2) ?_
      refine Ol.gn (hcal.trans c2) ?_
      refine Ol.gn (hcal.trans c2) ?_
      refine Ol.p (pkFb (hcal.trans c2)) ?_
      refine Ol.p mvb ?_
      refine Ol.gn rfl ?_
      refine Ol.gn rfl ?_
      refine Ol.gn rfl ?_
      refine Ol.gn rfl ?_
      refine Ol.p (pkFb rfl) ?_
      refine Ol.p mvb ?_
      refine Ol.gn rfl ?_
      refine Ol.gn rfl ?_
      refine Ol.gn rfl ?_
      refine Ol.gn rfl ?_
      refine Ol.gn rfl ?_
      refine Ol.p (pkFb rfl) ?_
      refine Ol.p asb ?_
      refine Ol.nil ?_
      exact Cd.ret ⟨.bool _, ret1 rfl rfl, [], .nil, by rw [e, c1, c2]; rfl, rfl⟩
    | true =>
    cases c3 : fitsB (!decide (i.dst = 0)) i.dst with
    | false =>
      refine Cd.region ?_
      refine Ol.p (fdl fd_api_Ins_2) ?_
      refine Ol.p (ld one_int (Rd.blk (i := 1) rfl rfl)) ?_
      refine Ol.p (fdl fd_api_Ins_3) ?_
      refine Ol.p (ld one_int (Rd.blk (i := 1) rfl rfl)) ?_
      refine Ol.p (fdl fd_api_Ins_4) ?_
      refine Ol.p (ld one_int (Rd.blk (i := 1) rfl rfl)) ?_
      refine Ol.x (bsv [.int .i64 i.a, .int .i64 i.b, .int .i64 i.imm] sl_L_int zr_int (by simp [Value.cells])) ?_
      rintro _ _ ⟨g27, rfl, rfl⟩
      refine Ol.s (cl en_ir_none (fun M w' hh => ir_none_ct (l := [i.a, i.b, i.imm]) (Reads.row hh (i := 0) rfl) (by simp))) ?_
      refine Ol.p mvb ?_
      refine Ol.gp c1 (fdl fd_api_Ins_5) ?_
      refine Ol.gp c1 (ld one_int (Rd.blk (i := 2) rfl rfl)) ?_
      refine Ol.gp c1 (cvw in_int in_uint) ?_
      refine Ol.gp c1 lei ?_
      refine Ol.p (pkTb c1) ?_
      refine Ol.p mvb ?_
      refine Ol.gp (hcal.trans c2) (fdl fd_api_Ins_1) ?_
      refine Ol.gp (hcal.trans c2) (ld one_int (Rd.blk (i := 2) rfl rfl)) ?_
      refine Ol.gp (hcal.trans c2) nei ?_
      refine Ol.gp (hcal.trans c2) (fdl fd_api_Ins_1) ?_
      refine Ol.gp (hcal.trans c2) (ld one_int (Rd.blk (i := 2) rfl rfl)) ?_
      refine Ol.gs (hcal.trans c2) (cl en_ir_fits (fun M w' hh => ir_fits_ct)) ?_
      refine Ol.p (pkTb (hcal.trans c2)) ?_
      refine Ol.p mvb ?_
      refine Ol.gn c3 ?_
      refine Ol.gn c3 ?_
      refine Ol.gn c3 ?_
      refine Ol.gn c3 ?_
      refine Ol.p (pkFb c3) ?_
      refine Ol.p mvb ?_
      refine Ol.gn rfl ?_
      refine Ol.gn rfl ?_
      refine Ol.gn rfl ?_
      refine Ol.gn rfl ?_
      refine Ol.gn rfl ?_
      refine Ol.p (pkFb rfl) ?_
      refine Ol.p asb ?_
      refine Ol.nil ?_
      exact Cd.ret ⟨.bool _, ret1 rfl rfl, [], .nil, by rw [e, c1, c2, c3]; rfl, rfl⟩
    | true =>
    cases c4 : decide (i.args.length ≤ 8) with
    | false =>
      refine Cd.region ?_
      refine Ol.p (fdl fd_api_Ins_2) ?_
      refine Ol.p (ld one_int (Rd.blk (i := 1) rfl rfl)) ?_
      refine Ol.p (fdl fd_api_Ins_3) ?_
      refine Ol.p (ld one_int (Rd.blk (i := 1) rfl rfl)) ?_
      refine Ol.p (fdl fd_api_Ins_4) ?_
      refine Ol.p (ld one_int (Rd.blk (i := 1) rfl rfl)) ?_
      refine Ol.x (bsv [.int .i64 i.a, .int .i64 i.b, .int .i64 i.imm] sl_L_int zr_int (by simp [Value.cells])) ?_
      rintro _ _ ⟨g27, rfl, rfl⟩
      refine Ol.s (cl en_ir_none (fun M w' hh => ir_none_ct (l := [i.a, i.b, i.imm]) (Reads.row hh (i := 0) rfl) (by simp))) ?_
      refine Ol.p mvb ?_
      refine Ol.gp c1 (fdl fd_api_Ins_5) ?_
      refine Ol.gp c1 (ld one_int (Rd.blk (i := 2) rfl rfl)) ?_
      refine Ol.gp c1 (cvw in_int in_uint) ?_
      refine Ol.gp c1 lei ?_
      refine Ol.p (pkTb c1) ?_
      refine Ol.p mvb ?_
      refine Ol.gp (hcal.trans c2) (fdl fd_api_Ins_1) ?_
      refine Ol.gp (hcal.trans c2) (ld one_int (Rd.blk (i := 2) rfl rfl)) ?_
      refine Ol.gp (hcal.trans c2) nei ?_
      refine Ol.gp (hcal.trans c2) (fdl fd_api_Ins_1) ?_
      refine Ol.gp (hcal.trans c2) (ld one_int (Rd.blk (i := 2) rfl rfl)) ?_
      refine Ol.gs (hcal.trans c2) (cl en_ir_fits (fun M w' hh => ir_fits_ct)) ?_
      refine Ol.p (pkTb (hcal.trans c2)) ?_
      refine Ol.p mvb ?_
      refine Ol.gp c3 (fdl fd_api_Ins_6) ?_
      refine Ol.gp c3 (ld one_L_int (Rd.blk (i := 2) rfl rfl)) ?_
      refine Ol.gp c3 (lens sl_L_int) ?_
      refine Ol.gp c3 lei ?_
      refine Ol.p (pkTb c3) ?_
      refine Ol.p mvb ?_
      refine Ol.gn (hl8.trans c4) ?_
      refine Ol.gn (hl8.trans c4) ?_
      refine Ol.gn (hl8.trans c4) ?_
      refine Ol.gn (hl8.trans c4) ?_
      refine Ol.gn (hl8.trans c4) ?_
      refine Ol.p (pkFb (hl8.trans c4)) ?_
      refine Ol.p asb ?_
      refine Ol.nil ?_
      exact Cd.ret ⟨.bool _, ret1 rfl rfl, [], .nil, by rw [e, c1, c2, c3, c4]; rfl, rfl⟩
    | true =>
      refine Cd.region ?_
      refine Ol.p (fdl fd_api_Ins_2) ?_
      refine Ol.p (ld one_int (Rd.blk (i := 1) rfl rfl)) ?_
      refine Ol.p (fdl fd_api_Ins_3) ?_
      refine Ol.p (ld one_int (Rd.blk (i := 1) rfl rfl)) ?_
      refine Ol.p (fdl fd_api_Ins_4) ?_
      refine Ol.p (ld one_int (Rd.blk (i := 1) rfl rfl)) ?_
      refine Ol.x (bsv [.int .i64 i.a, .int .i64 i.b, .int .i64 i.imm] sl_L_int zr_int (by simp [Value.cells])) ?_
      rintro _ _ ⟨g27, rfl, rfl⟩
      refine Ol.s (cl en_ir_none (fun M w' hh => ir_none_ct (l := [i.a, i.b, i.imm]) (Reads.row hh (i := 0) rfl) (by simp))) ?_
      refine Ol.p mvb ?_
      refine Ol.gp c1 (fdl fd_api_Ins_5) ?_
      refine Ol.gp c1 (ld one_int (Rd.blk (i := 2) rfl rfl)) ?_
      refine Ol.gp c1 (cvw in_int in_uint) ?_
      refine Ol.gp c1 lei ?_
      refine Ol.p (pkTb c1) ?_
      refine Ol.p mvb ?_
      refine Ol.gp (hcal.trans c2) (fdl fd_api_Ins_1) ?_
      refine Ol.gp (hcal.trans c2) (ld one_int (Rd.blk (i := 2) rfl rfl)) ?_
      refine Ol.gp (hcal.trans c2) nei ?_
      refine Ol.gp (hcal.trans c2) (fdl fd_api_Ins_1) ?_
      refine Ol.gp (hcal.trans c2) (ld one_int (Rd.blk (i := 2) rfl rfl)) ?_
      refine Ol.gs (hcal.trans c2) (cl en_ir_fits (fun M w' hh => ir_fits_ct)) ?_
      refine Ol.p (pkTb (hcal.trans c2)) ?_
      refine Ol.p mvb ?_
      refine Ol.gp c3 (fdl fd_api_Ins_6) ?_
      refine Ol.gp c3 (ld one_L_int (Rd.blk (i := 2) rfl rfl)) ?_
      refine Ol.gp c3 (lens sl_L_int) ?_
      refine Ol.gp c3 lei ?_
      refine Ol.p (pkTb c3) ?_
      refine Ol.p mvb ?_
      refine Ol.gp (hl8.trans c4) (fdl fd_api_Ins_6) ?_
      refine Ol.gp (hl8.trans c4) (ld one_L_int (Rd.blk (i := 2) rfl rfl)) ?_
      refine Ol.gp (hl8.trans c4) mvf ?_
      refine Ol.gs (hl8.trans c4) (cl en_slices_ContainsFunc_L_int_int (fun M w' hh => slices_ContainsFunc_L_int_int_ct (g := 71) (fst := #[]) (cap := #[]) (p := fun n => !varB n) (hi.args.now hh) hlen ⟨en_ir_IsIns_1, fun n hn w2 h2 => ir_IsIns_1_ct⟩)) ?_
      refine Ol.gp (hl8.trans c4) noti ?_
      refine Ol.p (pkTb (hl8.trans c4)) ?_
      refine Ol.p asb ?_
      refine Ol.nil ?_
      exact Cd.ret ⟨.bool _, ret1 rfl rfl, [], .nil, by rw [e, c1, c2, c3, c4, not_any_var]; rfl, rfl⟩
  refine Cd.skip ?_
  refine Cd.seq ?_
  refine Cd.mid (fun σ' L' => Has σ' [(1, .pointer (some ⟨g1, 0, none⟩)), (3, .pointer (some ⟨g3, 0, none⟩)), (73, .bool ((!S.imm && !decide (i.imm = 0)) || decide (i.imm < -1099511627776) || decide (1099511627776 < i.imm)))] ∧ [blk g3 (.cells S.cells.toArray 110), blk g1 (.cells i.cells.toArray 25)] = L') ?_ ?_
  · obtain ⟨p2, hp2⟩ : ∃ p2, p2 = decide (i.imm < -1099511627776) := ⟨_, rfl⟩
    cases p1 : S.imm with
    | true =>
      have hg : (!S.imm) = false := by rw [p1]; rfl
      cases p2 : decide (i.imm < -1099511627776) with
      | true =>
        refine Cd.region ?_
        refine Ol.p (fdl fd_ir_shape_3) ?_
        refine Ol.p (ld one_bool (Rd.blk (i := 0) rfl rfl)) ?_
        refine Ol.p noti ?_
        refine Ol.p mvb ?_
        refine Ol.gn hg ?_
        refine Ol.gn hg ?_
        refine Ol.gn hg ?_
        refine Ol.p (pkFb hg) ?_
        refine Ol.p mvb ?_
        refine Ol.gp rfl (fdl fd_api_Ins_4) ?_
        refine Ol.gp rfl (ld one_int (Rd.blk (i := 1) rfl rfl)) ?_
        refine Ol.gp rfl lsi ?_
        refine Ol.p (pkFb rfl) ?_
        refine Ol.p mvb ?_
        refine Ol.gn p2 ?_
        refine Ol.gn p2 ?_
        refine Ol.gn p2 ?_
        refine Ol.p (pkTb p2) ?_
        refine Ol.nil ?_
        exact ⟨⟨rfl, rfl, rfl, trivial⟩, rfl⟩
      | false =>
        refine Cd.region ?_
        refine Ol.p (fdl fd_ir_shape_3) ?_
        refine Ol.p (ld one_bool (Rd.blk (i := 0) rfl rfl)) ?_
        refine Ol.p noti ?_
        refine Ol.p mvb ?_
        refine Ol.gn hg ?_
        refine Ol.gn hg ?_
        refine Ol.gn hg ?_
        refine Ol.p (pkFb hg) ?_
        refine Ol.p mvb ?_
        refine Ol.gp rfl (fdl fd_api_Ins_4) ?_
        refine Ol.gp rfl (ld one_int (Rd.blk (i := 1) rfl rfl)) ?_
        refine Ol.gp rfl lsi ?_
        refine Ol.p (pkFb rfl) ?_
        refine Ol.p mvb ?_
        refine Ol.gp p2 (fdl fd_api_Ins_4) ?_
        refine Ol.gp p2 (ld one_int (Rd.blk (i := 1) rfl rfl)) ?_
        refine Ol.gp p2 gti ?_
        refine Ol.p (pkFb p2) ?_
        refine Ol.nil ?_
        exact ⟨⟨rfl, rfl, rfl, trivial⟩, rfl⟩
    | false =>
      have hg : (!S.imm) = true := by rw [p1]; rfl
      cases p3 : decide (i.imm = 0) with
      | false =>
        have hg3 : (!decide (i.imm = 0)) = true := by rw [p3]; rfl
        refine Cd.region ?_
        refine Ol.p (fdl fd_ir_shape_3) ?_
        refine Ol.p (ld one_bool (Rd.blk (i := 0) rfl rfl)) ?_
        refine Ol.p noti ?_
        refine Ol.p mvb ?_
        refine Ol.gp hg (fdl fd_api_Ins_4) ?_
        refine Ol.gp hg (ld one_int (Rd.blk (i := 1) rfl rfl)) ?_
        refine Ol.gp hg nei ?_
        refine Ol.p (pkTb hg) ?_
        refine Ol.p mvb ?_
        refine Ol.gn hg3 ?_
        refine Ol.gn hg3 ?_
        refine Ol.gn hg3 ?_
        refine Ol.p (pkTb hg3) ?_
        refine Ol.p mvb ?_
        refine Ol.gn rfl ?_
        refine Ol.gn rfl ?_
        refine Ol.gn rfl ?_
        refine Ol.p (pkTb rfl) ?_
        refine Ol.nil ?_
        exact ⟨⟨rfl, rfl, rfl, trivial⟩, rfl⟩
      | true =>
        have hg3 : (!decide (i.imm = 0)) = false := by rw [p3]; rfl
        cases p2 : decide (i.imm < -1099511627776) with
        | true =>
          refine Cd.region ?_
          refine Ol.p (fdl fd_ir_shape_3) ?_
          refine Ol.p (ld one_bool (Rd.blk (i := 0) rfl rfl)) ?_
          refine Ol.p noti ?_
          refine Ol.p mvb ?_
          refine Ol.gp hg (fdl fd_api_Ins_4) ?_
          refine Ol.gp hg (ld one_int (Rd.blk (i := 1) rfl rfl)) ?_
          refine Ol.gp hg nei ?_
          refine Ol.p (pkTb hg) ?_
          refine Ol.p mvb ?_
          refine Ol.gp hg3 (fdl fd_api_Ins_4) ?_
          refine Ol.gp hg3 (ld one_int (Rd.blk (i := 1) rfl rfl)) ?_
          refine Ol.gp hg3 lsi ?_
          refine Ol.p (pkFb hg3) ?_
          refine Ol.p mvb ?_
          refine Ol.gn p2 ?_
          refine Ol.gn p2 ?_
          refine Ol.gn p2 ?_
          refine Ol.p (pkTb p2) ?_
          refine Ol.nil ?_
          exact ⟨⟨rfl, rfl, rfl, trivial⟩, rfl⟩
        | false =>
          refine Cd.region ?_
          refine Ol.p (fdl fd_ir_shape_3) ?_
          refine Ol.p (ld one_bool (Rd.blk (i := 0) rfl rfl)) ?_
          refine Ol.p noti ?_
          refine Ol.p mvb ?_
          refine Ol.gp hg (fdl fd_api_Ins_4) ?_
          refine Ol.gp hg (ld one_int (Rd.blk (i := 1) rfl rfl)) ?_
          refine Ol.gp hg nei ?_
          refine Ol.p (pkTb hg) ?_
          refine Ol.p mvb ?_
          refine Ol.gp hg3 (fdl fd_api_Ins_4) ?_
          refine Ol.gp hg3 (ld one_int (Rd.blk (i := 1) rfl rfl)) ?_
          refine Ol.gp hg3 lsi ?_
          refine Ol.p (pkFb hg3) ?_
          refine Ol.p mvb ?_
          refine Ol.gp p2 (fdl fd_api_Ins_4) ?_
          refine Ol.gp p2 (ld one_int (Rd.blk (i := 1) rfl rfl)) ?_
          refine Ol.gp p2 gti ?_
          refine Ol.p (pkFb p2) ?_
          refine Ol.nil ?_
          exact ⟨⟨rfl, rfl, rfl, trivial⟩, rfl⟩
  rintro σ' _ ⟨hs', rfl⟩
  refine Cd.has hs' ?_
  refine Cd.cond rfl (fun hq => ?_) (fun hq => ?_)   -- $73
  · refine Cd.seq ?_
    refine Cd.region ?_
    refine Ol.p asb ?_
    refine Ol.nil ?_
    refine Cd.ret ⟨.bool _, ret1 rfl rfl, [], .nil, ?_, rfl⟩
    unfold isIns; rw [h2, hm, ← hS, hc, hq]; rfl
  have e : isIns i = (decide (i.callee = 0) && decide (i.args.length = 0) && fitsB S.dst i.dst && fitsB S.a i.a && fitsB S.b i.b) := by
    unfold isIns; rw [h2, hm, ← hS, hc, hq]; rfl
  refine Cd.skip ?_
  refine Cd.seq ?_
  cases c1 : decide (i.callee = 0) with
  | false =>
    refine Cd.region ?_
    refine Ol.p (fdl fd_api_Ins_5) ?_
    refine Ol.p (ld one_int (Rd.blk (i := 1) rfl rfl)) ?_
    refine Ol.p eqi ?_
    refine Ol.p mvb ?_
    refine Ol.gn c1 ?_
    refine Ol.gn c1 ?_
    refine Ol.gn c1 ?_
    refine Ol.gn c1 ?_
    refine Ol.p (pkFb c1) ?_
    refine Ol.p mvb ?_
    refine Ol.gn rfl ?_
    refine Ol.gn rfl ?_
    refine Ol.gn rfl ?_
    refine Ol.gn rfl ?_
    refine Ol.gn rfl ?_
    refine Ol.p (pkFb rfl) ?_
    refine Ol.p mvb ?_
    refine Ol.gn rfl ?_
    refine Ol.gn rfl ?_
    refine Ol.gn rfl ?_
    refine Ol.gn rfl ?_
    refine Ol.gn rfl ?_
    refine Ol.p (pkFb rfl) ?_
    refine Ol.p mvb ?_
    refine Ol.gn rfl ?_
    refine Ol.gn rfl ?_
    refine Ol.gn rfl ?_
    refine Ol.gn rfl ?_
    refine Ol.gn rfl ?_
    refine Ol.p (pkFb rfl) ?_
    refine Ol.p asb ?_
    refine Ol.nil ?_
    exact Cd.ret ⟨.bool _, ret1 rfl rfl, [], .nil, by rw [e, c1]; rfl, rfl⟩
  | true =>
  cases c2 : decide (i.args.length = 0) with
  | false =>
    refine Cd.region ?_
    refine Ol.p (fdl fd_api_Ins_5) ?_
    refine Ol.p (ld one_int (Rd.blk (i := 1) rfl rfl)) ?_
    refine Ol.p eqi ?_
    refine Ol.p mvb ?_
    refine Ol.gp c1 (fdl fd_api_Ins_6) ?_
    refine Ol.gp c1 (ld one_L_int (Rd.blk (i := 1) rfl rfl)) ?_
    refine Ol.gp c1 (lens sl_L_int) ?_
    refine Ol.gp c1 eqi ?_
    refine Ol.p (pkTb c1) ?_
    refine Ol.p mvb ?_
    refine Ol.gn (hl0.trans c2) ?_
    refine Ol.gn (hl0.trans c2) ?_
    refine Ol.gn (hl0.trans c2) ?_
    refine Ol.gn (hl0.trans c2) ?_
    refine Ol.gn (hl0.trans c2) ?_
    refine Ol.p (pkFb (hl0.trans c2)) ?_
    refine Ol.p mvb ?_
    refine Ol.gn rfl ?_
    refine Ol.gn rfl ?_
    refine Ol.gn rfl ?_
    refine Ol.gn rfl ?_
    refine Ol.gn rfl ?_
    refine Ol.p (pkFb rfl) ?_
    refine Ol.p mvb ?_
    refine Ol.gn rfl ?_
    refine Ol.gn rfl ?_
    refine Ol.gn rfl ?_
    refine Ol.gn rfl ?_
    refine Ol.gn rfl ?_
    refine Ol.p (pkFb rfl) ?_
    refine Ol.p asb ?_
    refine Ol.nil ?_
    exact Cd.ret ⟨.bool _, ret1 rfl rfl, [], .nil, by rw [e, c1, c2]; rfl, rfl⟩
  | true =>
  cases c3 : fitsB S.dst i.dst with
  | false =>
    refine Cd.region ?_
    refine Ol.p (fdl fd_api_Ins_5) ?_
    refine Ol.p (ld one_int (Rd.blk (i := 1) rfl rfl)) ?_
    refine Ol.p eqi ?_
    refine Ol.p mvb ?_
    refine Ol.gp c1 (fdl fd_api_Ins_6) ?_
    refine Ol.gp c1 (ld one_L_int (Rd.blk (i := 1) rfl rfl)) ?_
    refine Ol.gp c1 (lens sl_L_int) ?_
    refine Ol.gp c1 eqi ?_
    refine Ol.p (pkTb c1) ?_
    refine Ol.p mvb ?_
    refine Ol.gp (hl0.trans c2) (fdl fd_ir_shape_0) ?_
    refine Ol.gp (hl0.trans c2) (ld one_bool (Rd.blk (i := 0) rfl rfl)) ?_
    refine Ol.gp (hl0.trans c2) (fdl fd_api_Ins_1) ?_
    refine Ol.gp (hl0.trans c2) (ld one_int (Rd.blk (i := 1) rfl rfl)) ?_
    refine Ol.gs (hl0.trans c2) (cl en_ir_fits (fun M w' hh => ir_fits_ct)) ?_
    refine Ol.p (pkTb (hl0.trans c2)) ?_
    refine Ol.p mvb ?_
    refine Ol.gn c3 ?_
    refine Ol.gn c3 ?_
    refine Ol.gn c3 ?_
    refine Ol.gn c3 ?_
    refine Ol.gn c3 ?_
    refine Ol.p (pkFb c3) ?_
    refine Ol.p mvb ?_
    refine Ol.gn rfl ?_
    refine Ol.gn rfl ?_
    refine Ol.gn rfl ?_
    refine Ol.gn rfl ?_
    refine Ol.gn rfl ?_
    refine Ol.p (pkFb rfl) ?_
    refine Ol.p asb ?_
    refine Ol.nil ?_
    exact Cd.ret ⟨.bool _, ret1 rfl rfl, [], .nil, by rw [e, c1, c2, c3]; rfl, rfl⟩
  | true =>
  cases c4 : fitsB S.a i.a with
  | false =>
    refine Cd.region ?_
    refine Ol.p (fdl fd_api_Ins_5) ?_
    refine Ol.p (ld one_int (Rd.blk (i := 1) rfl rfl)) ?_
    refine Ol.p eqi ?_
    refine Ol.p mvb ?_
    refine Ol.gp c1 (fdl fd_api_Ins_6) ?_
    refine Ol.gp c1 (ld one_L_int (Rd.blk (i := 1) rfl rfl)) ?_
    refine Ol.gp c1 (lens sl_L_int) ?_
    refine Ol.gp c1 eqi ?_
    refine Ol.p (pkTb c1) ?_
    refine Ol.p mvb ?_
    refine Ol.gp (hl0.trans c2) (fdl fd_ir_shape_0) ?_
    refine Ol.gp (hl0.trans c2) (ld one_bool (Rd.blk (i := 0) rfl rfl)) ?_
    refine Ol.gp (hl0.trans c2) (fdl fd_api_Ins_1) ?_
    refine Ol.gp (hl0.trans c2) (ld one_int (Rd.blk (i := 1) rfl rfl)) ?_
    refine Ol.gs (hl0.trans c2) (cl en_ir_fits (fun M w' hh => ir_fits_ct)) ?_
    refine Ol.p (pkTb (hl0.trans c2)) ?_
    refine Ol.p mvb ?_
    refine Ol.gp c3 (fdl fd_ir_shape_1) ?_
    refine Ol.gp c3 (ld one_bool (Rd.blk (i := 0) rfl rfl)) ?_
    refine Ol.gp c3 (fdl fd_api_Ins_2) ?_
    refine Ol.gp c3 (ld one_int (Rd.blk (i := 1) rfl rfl)) ?_
    refine Ol.gs c3 (cl en_ir_fits (fun M w' hh => ir_fits_ct)) ?_
    refine Ol.p (pkTb c3) ?_
    refine Ol.p mvb ?_
    refine Ol.gn c4 ?_
    refine Ol.gn c4 ?_
    refine Ol.gn c4 ?_
    refine Ol.gn c4 ?_
    refine Ol.gn c4 ?_
    refine Ol.p (pkFb c4) ?_
    refine Ol.p asb ?_
    refine Ol.nil ?_
    exact Cd.ret ⟨.bool _, ret1 rfl rfl, [], .nil, by rw [e, c1, c2, c3, c4]; rfl, rfl⟩
  | true =>
    refine Cd.region ?_
    refine Ol.p (fdl fd_api_Ins_5) ?_
    refine Ol.p (ld one_int (Rd.blk (i := 1) rfl rfl)) ?_
    refine Ol.p eqi ?_
    refine Ol.p mvb ?_
    refine Ol.gp c1 (fdl fd_api_Ins_6) ?_
    refine Ol.gp c1 (ld one_L_int (Rd.blk (i := 1) rfl rfl)) ?_
    refine Ol.gp c1 (lens sl_L_int) ?_
    refine Ol.gp c1 eqi ?_
    refine Ol.p (pkTb c1) ?_
    refine Ol.p mvb ?_
    refine Ol.gp (hl0.trans c2) (fdl fd_ir_shape_0) ?_
    refine Ol.gp (hl0.trans c2) (ld one_bool (Rd.blk (i := 0) rfl rfl)) ?_
    refine Ol.gp (hl0.trans c2) (fdl fd_api_Ins_1) ?_
    refine Ol.gp (hl0.trans c2) (ld one_int (Rd.blk (i := 1) rfl rfl)) ?_
    refine Ol.gs (hl0.trans c2) (cl en_ir_fits (fun M w' hh => ir_fits_ct)) ?_
    refine Ol.p (pkTb (hl0.trans c2)) ?_
    refine Ol.p mvb ?_
    refine Ol.gp c3 (fdl fd_ir_shape_1) ?_
    refine Ol.gp c3 (ld one_bool (Rd.blk (i := 0) rfl rfl)) ?_
    refine Ol.gp c3 (fdl fd_api_Ins_2) ?_
    refine Ol.gp c3 (ld one_int (Rd.blk (i := 1) rfl rfl)) ?_
    refine Ol.gs c3 (cl en_ir_fits (fun M w' hh => ir_fits_ct)) ?_
    refine Ol.p (pkTb c3) ?_
    refine Ol.p mvb ?_
    refine Ol.gp c4 (fdl fd_ir_shape_2) ?_
    refine Ol.gp c4 (ld one_bool (Rd.blk (i := 0) rfl rfl)) ?_
    refine Ol.gp c4 (fdl fd_api_Ins_3) ?_
    refine Ol.gp c4 (ld one_int (Rd.blk (i := 1) rfl rfl)) ?_
    refine Ol.gs c4 (cl en_ir_fits (fun M w' hh => ir_fits_ct)) ?_
    refine Ol.p (pkTb c4) ?_
    refine Ol.p asb ?_
    refine Ol.nil ?_
    exact Cd.ret ⟨.bool _, ret1 rfl rfl, [], .nil, by rw [e, c1, c2, c3, c4]; rfl, rfl⟩
end
end Go.Proofs.YtcojedoejpcolaaGreat

/- The package ir: what instructions read and define, what ends need; sets: walked. -/
namespace Go.Proofs.YtcojedoejpcolaaGreat
set_option linter.unusedVariables false
open Go Go.RowKit
set_option maxRecDepth 100000

theorem RIns.one (i : RIns) : ∀ u ∈ i.cells, u.oneCell' = true := by
  intro u hu
  unfold RIns.cells at hu
  simp only [List.mem_cons, List.not_mem_nil, or_false] at hu
  rcases hu with rfl | rfl | rfl | rfl | rfl | rfl | rfl | rfl <;> rfl
/-- A block that can be read. -/
structure BlkAt (w : World) (b : RBlk) : Prop where
  ins : Reads w w.heap.size 8 b.iA b.ins.length (b.ins.flatMap RIns.cells)
  all : ∀ i ∈ b.ins, InsAt w i
  len : b.ins.length < 2 ^ 50
theorem BlkAt.now {w0 w : World} {L : List Res} {b : RBlk} (h : BlkAt w0 b) (hh : Hp w0 w0.heap.size L w) : BlkAt w b := ⟨h.ins.now hh, fun i hi => (h.all i hi).now hh, h.len⟩
theorem FunAt.blk {w : World} {f : RFun} (hf : FunAt w w.heap.size f) (hfit : Fit f) {b : RBlk} (hb : b ∈ f.blocks) : BlkAt w b :=
  ⟨hf.ins b hb, fun i hi => ⟨hf.args b hb i hi, hfit.alen b hb i hi, hfit.insr b hb i hi i.callee (by simp)⟩, hfit.ilen b hb⟩
theorem ins_cell {l : List RIns} {k j : Nat} {i : RIns} {u : Value} (hk : l[k]? = some i) (hu : i.cells[j]? = some u) : (l.flatMap RIns.cells)[k * 8 + j]? = some u := by
  rw [flat_get RIns.len _ _ _ _ hk (by have := (List.getElem?_eq_some_iff.1 hu).1; rw [RIns.len] at this; exact this)]; exact hu
/-- What the first k of its two parts read. -/
def abTo (i : RIns) (k : Nat) : List Int := ([i.a, i.b].take k).filter fun n => !decide (n = 0)
theorem abTo_len (i : RIns) (k : Nat) : (abTo i k).length ≤ 2 := by
  unfold abTo
  have h1 : (([i.a, i.b].take k).filter fun n => !decide (n = 0)).length ≤ ([i.a, i.b].take k).length := List.length_filter_le _ _
  have h2 : ([i.a, i.b].take k).length ≤ 2 := by simp [List.length_take]; omega
  omega
theorem abTo_succ {i : RIns} {k : Nat} {v : Int} (h : [i.a, i.b][k]? = some v) : abTo i (k + 1) = if v = 0 then abTo i k else abTo i k ++ [v] := by
  unfold abTo
  rw [take_snoc_ h, List.filter_append]
  by_cases e : v = 0 <;> simp [e]
section
set_option maxHeartbeats 1000000 in
theorem ir_Reads_ct {w : World} {i : RIns} (hi : InsAt w i) : Ct Tryz.prog 30 #[i.val] w (NewL 3 1 (readsL i).length (ints (readsL i))) := by
  refine Ct.mk Tryz.func30 rfl rfl ?_
  refine Cd.seq ?_
  refine Cd.region ?_
  refine Ol.x bxg ?_
  rintro _ _ ⟨g1, rfl, rfl⟩
  refine Ol.p ass ?_
  refine Ol.nil ?_
  refine Cd.seq ?_
  refine Cd.seq ?_
  refine Cd.region ?_
  refine Ol.p (ldw ag_api_Ins (i := 0) rfl rfl) ?_
  refine Ol.s (cl en_ir_IsIns (fun M w' hh => ir_IsIns_ct (hi.now hh))) ?_
  refine Ol.p noti ?_
  refine Ol.nil ?_
  refine Cd.cond rfl (fun h => ?_) (fun h => ?_)   -- $7
  · have e : readsL i = [] := by
      unfold readsL
      have : isIns i = false := by simpa using h
      rw [this]; rfl
    rw [e]
    refine Cd.seq ?_
    refine Cd.region ?_
    refine Ol.p ass ?_
    refine Ol.nil ?_
    refine Cd.nr 3 1 ?_
    exact Cd.ret ⟨.slice none 0 0, ret1 rfl rfl, _, .sub (.cons_cons _ (.cons _ .slnil)), none, 0, rfl, rfl⟩
  have his : isIns i = true := by simpa using h
  have hargs := (isIns_parts his).2.2.2.2
  have e : readsL i = abTo i 2 ++ i.args := by unfold readsL abTo; rw [his]; rfl
  refine Cd.skip ?_
  refine Cd.seq ?_
  refine Cd.seq ?_
  refine Cd.region ?_
  refine Ol.p (fdl fd_api_Ins_2) ?_
  refine Ol.p (ld one_int (Rd.blk (i := 0) rfl rfl)) ?_
  refine Ol.p (fdl fd_api_Ins_3) ?_
  refine Ol.p (ld one_int (Rd.blk (i := 0) rfl rfl)) ?_
  refine Ol.p (bda (cs := #[.int .i64 i.a, .int .i64 i.b]) ar_A2_int zr_A2_int (hf := by kernel_rfl)) ?_
  refine Ol.p mvi ?_
  refine Ol.nil ?_
  refine Cd.nr 3 1 ?_
  refine Cd.block ?_   -- 0
  obtain ⟨L0, hL0⟩ : ∃ L0, L0 = [blk g1 (.cells i.cells.toArray 25)] := ⟨_, rfl⟩
  refine Cd.loop (fun m σ L => ∃ (k : Nat) (A : Option Addr) (c : Nat), m = 2 - k ∧ k ≤ 2 ∧ Has σ [(1, .pointer (some ⟨g1, 0, none⟩)), (2, .slice A (abTo i k).length c), (12, .agg #[.int .i64 i.a, .int .i64 i.b]), (13, .int .i64 k)] ∧ row (.slice A (abTo i k).length c) 3 1 (abTo i k).length (ints (abTo i k)) :: L0 = L) (n := 2) ⟨0, none, 0, rfl, Nat.zero_le _, ⟨rfl, rfl, rfl, rfl, trivial⟩, by rw [hL0]; rfl⟩ ?_
  rintro _ σ L ⟨k, A, c, rfl, hk, hs, rfl⟩
  refine Cd.has hs ?_
  refine Cd.seq ?_
  rw [hL0]
  refine Cd.region ?_
  refine Ol.p lsi ?_
  refine Ol.nil ?_
  refine Cd.seq ?_
  refine Cd.cond rfl (fun h => ?_) (fun h => ?_)   -- $14
  · have hlt : k < 2 := by
      simp only [decide_eq_true_eq] at h; omega
    obtain ⟨v, hv⟩ : ∃ v, [i.a, i.b][k]? = some v := ⟨_, List.getElem?_eq_getElem hlt⟩
    have hvv : (#[Value.int .i64 i.a, .int .i64 i.b] : Array Value)[k]? = some (.int .i64 v) := by
      rcases k with _ | _ | k
      · cases hv; rfl
      · cases hv; rfl
      · omega
    have hlen := abTo_len i k
    refine Cd.skip ?_
    refine Cd.mid (fun σ' L' => ∃ A' c', Has σ' [(1, .pointer (some ⟨g1, 0, none⟩)), (2, .slice A' (abTo i (k + 1)).length c'), (12, .agg #[.int .i64 i.a, .int .i64 i.b]), (13, .int .i64 k)] ∧ row (.slice A' (abTo i (k + 1)).length c') 3 1 (abTo i (k + 1)).length (ints (abTo i (k + 1))) :: L0 = L') ?_ ?_
    · refine Cd.block ?_   -- 1
      refine Cd.seq ?_
      refine Cd.region ?_
      refine Ol.p (ixv (k := k) ar_A2_int one_int hlt hvv) ?_
      refine Ol.p asi ?_
      refine Ol.nil ?_
      refine Cd.seq ?_
      refine Cd.region ?_
      refine Ol.p mvi ?_
      refine Ol.p nei ?_
      refine Ol.nil ?_
      refine Cd.cond rfl (fun h2 => ?_) (fun h2 => ?_)   -- $17
      · have h0 : v ≠ 0 := by simpa using h2
        have e2 : abTo i (k + 1) = abTo i k ++ [v] := by rw [abTo_succ hv, if_neg h0]
        refine Cd.region ?_
        refine Ol.p mvs ?_
        refine Ol.p mvi ?_
        refine Ol.x (bsv [.int .i64 v] sl_L_int zr_int (by simp [Value.cells])) ?_
        rintro _ _ ⟨g20, rfl, rfl⟩
        refine Ol.x (apn (i := 1) (m := 1) sl_L_int zr_int rfl (by decide) rfl (Src.row (i := 0) rfl rfl) (by intro u hu; simp at hu; subst hu; rfl) (by unfold maxLen; omega) (by omega)) ?_
        rintro _ _ ⟨A', c', rfl, rfl⟩
        refine Ol.p ass ?_
        refine Ol.keep (.sub (.cons _ (List.Sublist.refl _))) ?_
        refine Ol.nil ?_
        refine ⟨A', c', ⟨rfl, ?_, rfl, rfl, trivial⟩, ?_⟩
        · rw [e2, List.length_append]; rfl
        · rw [e2, List.length_append, hL0, show ints (abTo i k ++ [v]) = ints (abTo i k) ++ [.int .i64 v] by simp [ints]]; rfl
      have h0 : v = 0 := by simpa using h2
      have e2 : abTo i (k + 1) = abTo i k := by rw [abTo_succ hv, if_pos h0]
      refine Cd.skip ?_
      rw [e2]
      exact ⟨A, c, ⟨rfl, rfl, rfl, rfl, trivial⟩, by rw [hL0]⟩
    rintro σ' _ ⟨A', c', hs', rfl⟩
    refine Cd.has hs' ?_
    rw [hL0]
    refine Cd.region ?_
    refine Ol.p addi ?_
    refine Ol.p mvi ?_
    refine Ol.nil ?_
    exact ⟨2 - (k + 1), by omega, k + 1, A', c', rfl, by omega, ⟨rfl, rfl, rfl, rfl, trivial⟩, rfl⟩
  have hk2 : k = 2 := by
    have : ¬ (k : Int) < 2 := by simpa using h
    omega
  subst hk2
  have hlen := abTo_len i 2
  refine Cd.exit (id := 0) ?_
  refine Cd.seq ?_
  refine Cd.region ?_
  refine Ol.p mvs ?_
  refine Ol.p (fdl fd_api_Ins_6) ?_
  refine Ol.p (ld one_L_int (Rd.blk (i := 1) rfl rfl)) ?_
  refine Ol.x (apn (i := 0) (m := i.args.length) sl_L_int zr_int rfl (by decide) rfl (Src.slc hi.args) (ints_one _) (by unfold maxLen; omega) (by omega)) ?_
  rintro _ _ ⟨A', c', rfl, rfl⟩
  refine Ol.p ass ?_
  refine Ol.nil ?_
  rw [e]
  refine Cd.ret ⟨.slice A' _ c', ret1 rfl rfl, _, .sub (.cons_cons _ (.cons _ .slnil)), A', c', ?_, ?_⟩
  · rw [List.length_append]
  · rw [List.length_append, show ints (abTo i 2 ++ i.args) = ints (abTo i 2) ++ ints i.args by simp [ints]]
end
section
theorem ir_Needs_ct {w : World} {t : Tm} : Ct Tryz.prog 31 #[t.val] w (NewL 3 1 (needsL t).length (ints (needsL t))) := by
  refine Ct.mk Tryz.func31 rfl rfl ?_
  refine Cd.seq ?_
  refine Cd.region ?_
  refine Ol.x bxg ?_
  rintro _ _ ⟨g1, rfl, rfl⟩
  refine Ol.p ass ?_
  refine Ol.nil ?_
  refine Cd.seq ?_
  refine Cd.seq ?_
  cases h1 : isTerm t with
  | false =>
    have e : needsL t = [] := by unfold needsL; rw [h1]; rfl
    have hg : (!isTerm t) = true := by rw [h1]; rfl
    rw [e]
    refine Cd.region ?_
    refine Ol.p (ldw ag_api_Term (i := 0) rfl rfl) ?_
    refine Ol.s (cl en_ir_IsTerm (fun M w' hh => ir_IsTerm_ct (t := t))) ?_
    refine Ol.p noti ?_
    refine Ol.p mvb ?_
    refine Ol.gn hg ?_
    refine Ol.gn hg ?_
    refine Ol.gn hg ?_
    refine Ol.p (pkTb hg) ?_
    refine Ol.nil ?_
    refine Cd.cond rfl (fun h => ?_) (fun h => by cases h)   -- $10
    refine Cd.seq ?_
    refine Cd.region ?_
    refine Ol.p ass ?_
    refine Ol.nil ?_
    refine Cd.nr 3 1 ?_
    exact Cd.ret ⟨.slice none 0 0, ret1 rfl rfl, _, .sub (.cons_cons _ (.cons _ .slnil)), none, 0, rfl, rfl⟩
  | true =>
    have hg : (!isTerm t) = false := by rw [h1]; rfl
    refine Cd.region ?_
    refine Ol.p (ldw ag_api_Term (i := 0) rfl rfl) ?_
    refine Ol.s (cl en_ir_IsTerm (fun M w' hh => ir_IsTerm_ct (t := t))) ?_
    refine Ol.p noti ?_
    refine Ol.p mvb ?_
    refine Ol.gp hg (fdl fd_api_Term_1) ?_
    refine Ol.gp hg (ld one_int (Rd.blk (i := 0) rfl rfl)) ?_
    refine Ol.gp hg eqi ?_
    refine Ol.p (pkFb hg) ?_
    refine Ol.nil ?_
    refine Cd.cond rfl (fun h => ?_) (fun h => ?_)   -- $10
    · have e : needsL t = [] := by unfold needsL; rw [h1, h]; rfl
      rw [e]
      refine Cd.seq ?_
      refine Cd.region ?_
      refine Ol.p ass ?_
      refine Ol.nil ?_
      refine Cd.nr 3 1 ?_
      exact Cd.ret ⟨.slice none 0 0, ret1 rfl rfl, _, .sub (.cons_cons _ (.cons _ .slnil)), none, 0, rfl, rfl⟩
    have e : needsL t = [t.a] := by unfold needsL; rw [h1, h]; rfl
    rw [e]
    refine Cd.skip ?_
    refine Cd.seq ?_
    refine Cd.region ?_
    refine Ol.p (fdl fd_api_Term_1) ?_
    refine Ol.p (ld one_int (Rd.blk (i := 0) rfl rfl)) ?_
    refine Ol.x (bsv [.int .i64 t.a] sl_L_int zr_int (by simp [Value.cells])) ?_
    rintro _ _ ⟨g13, rfl, rfl⟩
    refine Ol.p ass ?_
    refine Ol.nil ?_
    exact Cd.ret ⟨.slice _ _ _, ret1 rfl rfl, _, .sub (.cons_cons _ (.cons _ .slnil)), _, _, rfl, rfl⟩
end
section
theorem ir_Defines_ct {w : World} {i : RIns} (hi : InsAt w i) : Ct Tryz.prog 39 #[i.val] w (Is (.int .i64 (defI i))) := by
  refine Ct.mk Tryz.func39 rfl rfl ?_
  refine Cd.seq ?_
  refine Cd.region ?_
  refine Ol.x bxg ?_
  rintro _ _ ⟨g1, rfl, rfl⟩
  refine Ol.p asi ?_
  refine Ol.nil ?_
  refine Cd.seq ?_
  refine Cd.seq ?_
  refine Cd.region ?_
  refine Ol.p (ldw ag_api_Ins (i := 0) rfl rfl) ?_
  refine Ol.s (cl en_ir_IsIns (fun M w' hh => ir_IsIns_ct (hi.now hh))) ?_
  refine Ol.p noti ?_
  refine Ol.nil ?_
  refine Cd.cond rfl (fun h => ?_) (fun h => ?_)   -- $5
  · refine Cd.seq ?_
    refine Cd.region ?_
    refine Ol.p asi ?_
    refine Ol.nil ?_
    refine Cd.ret ⟨.int .i64 _, ret1 rfl rfl, [], .nil, ?_, rfl⟩
    have : isIns i = false := by simpa using h
    unfold defI; rw [this]; rfl
  refine Cd.skip ?_
  refine Cd.seq ?_
  refine Cd.region ?_
  refine Ol.p (fdl fd_api_Ins_1) ?_
  refine Ol.p (ld one_int (Rd.blk (i := 0) rfl rfl)) ?_
  refine Ol.p asi ?_
  refine Ol.nil ?_
  refine Cd.ret ⟨.int .i64 _, ret1 rfl rfl, [], .nil, ?_, rfl⟩
  have : isIns i = true := by simpa using h
  unfold defI; rw [this]; rfl
end
section
theorem zeroV : (Array.replicate 201 (Value.bool false)) = encV fun _ => false := by
  apply Array.ext'
  simp [encV, List.map_const']
theorem encV_put {f g : VS} {k : Nat} {b : Bool} (h : ∀ i, i < 201 → putV f k b i = g i) : (encV f).setIfInBounds k (.bool b) = encV g := by rw [encV_set]; exact encV_congr h
theorem ir_full_ct {w : World} : Ct Tryz.prog 130 #[] w (Is (.agg (encV fun _ => true))) := by
  refine Ct.mk Tryz.func130 rfl rfl ?_
  refine Cd.seq ?_
  refine Cd.region ?_
  refine Ol.x (alc zr_ir_set) ?_
  rintro _ _ ⟨g0, rfl, rfl⟩
  refine Ol.nil ?_
  refine Cd.seq ?_
  refine Cd.seq ?_
  refine Cd.region ?_
  refine Ol.p mvi ?_
  refine Ol.nil ?_
  refine Cd.block ?_   -- 0
  refine Cd.loop (fun m σ L => ∃ k, m = 201 - k ∧ k ≤ 201 ∧ Has σ [(0, .pointer (some ⟨g0, 0, none⟩)), (2, .int .i64 (k : Nat))] ∧ [blk g0 (.cells (encV fun j => decide (j < k)) 145)] = L) (n := 201) ⟨0, rfl, Nat.zero_le _, ⟨rfl, rfl, trivial⟩, by rw [show (encV fun j => decide (j < 0)) = encV fun _ => false from encV_congr fun i _ => by simp, ← zeroV]; rfl⟩ ?_
  rintro _ σ L ⟨k, rfl, hk, hs, rfl⟩
  refine Cd.has hs ?_
  refine Cd.seq ?_
  refine Cd.region ?_
  refine Ol.p lsi ?_
  refine Ol.nil ?_
  refine Cd.seq ?_
  refine Cd.cond rfl (fun h => ?_) (fun h => ?_)   -- $3
  · have hlt : k < 201 := by
      simp only [decide_eq_true_eq] at h; omega
    refine Cd.skip ?_
    refine Cd.seq ?_
    refine Cd.block ?_   -- 1
    refine Cd.seq ?_
    refine Cd.region ?_
    refine Ol.p mvi ?_
    refine Ol.p asi ?_
    refine Ol.nil ?_
    refine Cd.region ?_
    refine Ol.p mvi ?_
    refine Ol.p (ixl1 (ix := k) ar_ir_set) ?_
    refine Ol.s (sto (k := k) (.inr sz_bool) rfl rfl (i := 0) rfl (by rw [encV_size]; exact hlt) rfl) ?_
    refine Ol.nil ?_
    refine Cd.region ?_
    refine Ol.p addi ?_
    refine Ol.p mvi ?_
    refine Ol.nil ?_
    refine ⟨201 - (k + 1), by omega, k + 1, rfl, by omega, ⟨rfl, rfl, trivial⟩, ?_⟩
    have e : (encV fun j => decide (j < k)).setIfInBounds k (.bool true) = encV fun j => decide (j < k + 1) := encV_put fun j hj => by
      unfold putV
      by_cases e : j = k
      · simp [e]
      · rw [if_neg e, decide_eq_decide]; omega
    exact congrArg (fun cs => [blk g0 (.cells cs 145)]) e.symm
  have hk2 : k = 201 := by
    have : ¬ (k : Int) < 201 := by simpa using h
    omega
  subst hk2
  rw [show (encV fun j => decide (j < 201)) = encV fun _ => true from encV_congr fun i hi => by simpa using hi]
  refine Cd.exit (id := 0) ?_
  refine Cd.seq ?_
  refine Cd.region ?_
  refine Ol.p (ldw ag_ir_set (i := 0) rfl (encV_size _)) ?_
  refine Ol.s (stw sz_ir_set (encV_size _) (encV_one _) (i := 0) rfl (encV_size _)) ?_
  refine Ol.nil ?_
  exact Cd.ret ⟨.agg _, retc rfl ag_ir_set rfl (i := 0) rfl (encV_size _), [], .nil, rfl, rfl⟩
end
section
theorem ir_set_meet_ct {w : World} {s t : VS} : Ct Tryz.prog 131 #[.agg (encV s), .agg (encV t)] w (Is (.agg (encV fun j => s j && t j))) := by
  refine Ct.mk Tryz.func131 rfl rfl ?_
  refine Cd.seq ?_
  refine Cd.region ?_
  refine Ol.x bxg ?_
  rintro _ _ ⟨g2, rfl, rfl⟩
  refine Ol.x bxg ?_
  rintro _ _ ⟨g3, rfl, rfl⟩
  refine Ol.x (alc zr_ir_set) ?_
  rintro _ _ ⟨g4, rfl, rfl⟩
  refine Ol.nil ?_
  refine Cd.seq ?_
  refine Cd.seq ?_
  refine Cd.region ?_
  refine Ol.p mvi ?_
  refine Ol.nil ?_
  obtain ⟨Z, hZ⟩ : ∃ Z, Z = encV fun _ => false := ⟨_, rfl⟩
  refine Cd.block ?_   -- 0
  refine Cd.loop (fun m σ L => ∃ k, m = 201 - k ∧ k ≤ 201 ∧ Has σ [(2, .pointer (some ⟨g2, 0, none⟩)), (3, .pointer (some ⟨g3, 0, none⟩)), (4, .pointer (some ⟨g4, 0, none⟩)), (6, .int .i64 (k : Nat))] ∧ [blk g4 (.cells Z 145), blk g3 (.cells (encV t) 145), blk g2 (.cells (encV fun j => if j < k then s j && t j else s j) 145)] = L) (n := 201) ⟨0, rfl, Nat.zero_le _, ⟨rfl, rfl, rfl, rfl, trivial⟩, by rw [hZ, ← zeroV, show (encV fun j => if j < 0 then s j && t j else s j) = encV s from encV_congr fun i _ => by simp]; rfl⟩ ?_
  rintro _ σ L ⟨k, rfl, hk, hs, rfl⟩
  refine Cd.has hs ?_
  refine Cd.seq ?_
  refine Cd.region ?_
  refine Ol.p lsi ?_
  refine Ol.nil ?_
  refine Cd.seq ?_
  refine Cd.cond rfl (fun h => ?_) (fun h => ?_)   -- $7
  · have hlt : k < 201 := by
      simp only [decide_eq_true_eq] at h; omega
    have hput : ∀ b, b = (s k && t k) → (encV fun j => if j < k then s j && t j else s j).setIfInBounds k (.bool b) = encV fun j => if j < k + 1 then s j && t j else s j := fun b hb => encV_put fun j hj => by
      unfold putV
      by_cases e : j = k
      · subst e; rw [if_pos rfl, if_pos (by omega), hb]
      · rw [if_neg e]
        show (if j < k then s j && t j else s j) = _
        by_cases h2 : j < k
        · rw [if_pos h2, if_pos (by omega)]
        · rw [if_neg h2, if_neg (by omega)]
    refine Cd.skip ?_
    refine Cd.seq ?_
    refine Cd.block ?_   -- 1
    refine Cd.seq ?_
    refine Cd.region ?_
    refine Ol.p mvi ?_
    refine Ol.p asi ?_
    refine Ol.nil ?_
    cases hsk : s k with
    | true =>
      have hg : (if k < k then s k && t k else s k) = true := by rw [if_neg (Nat.lt_irrefl k), hsk]
      refine Cd.region ?_
      refine Ol.p mvi ?_
      refine Ol.p mvi ?_
      refine Ol.p (ixl1 (ix := k) ar_ir_set) ?_
      refine Ol.p (ld one_bool (Rd.blk (i := 2) rfl (encV_get hlt))) ?_
      refine Ol.p mvb ?_
      refine Ol.gp hg mvi ?_
      refine Ol.gp hg (ixl1 (ix := k) ar_ir_set) ?_
      refine Ol.gp hg (ld one_bool (Rd.blk (i := 1) rfl (encV_get hlt))) ?_
      refine Ol.p (pkTb hg) ?_
      refine Ol.p (ixl1 (ix := k) ar_ir_set) ?_
      refine Ol.s (sto (k := k) (.inr sz_bool) rfl rfl (i := 2) rfl (by rw [encV_size]; exact hlt) rfl) ?_
      refine Ol.nil ?_
      refine Cd.region ?_
      refine Ol.p addi ?_
      refine Ol.p mvi ?_
      refine Ol.nil ?_
      exact ⟨201 - (k + 1), by omega, k + 1, rfl, by omega, ⟨rfl, rfl, rfl, rfl, trivial⟩, congrArg (fun cs => [blk g4 (.cells Z 145), blk g3 (.cells (encV t) 145), blk g2 (.cells cs 145)]) (hput _ (by rw [hsk]; rfl)).symm⟩
    | false =>
      have hg : (if k < k then s k && t k else s k) = false := by rw [if_neg (Nat.lt_irrefl k), hsk]
      refine Cd.region ?_
      refine Ol.p mvi ?_
      refine Ol.p mvi ?_
      refine Ol.p (ixl1 (ix := k) ar_ir_set) ?_
      refine Ol.p (ld one_bool (Rd.blk (i := 2) rfl (encV_get hlt))) ?_
      refine Ol.p mvb ?_
      refine Ol.gn hg ?_
      refine Ol.gn hg ?_
      refine Ol.gn hg ?_
      refine Ol.p (pkFb hg) ?_
      refine Ol.p (ixl1 (ix := k) ar_ir_set) ?_
      refine Ol.s (sto (k := k) (.inr sz_bool) rfl rfl (i := 2) rfl (by rw [encV_size]; exact hlt) rfl) ?_
      refine Ol.nil ?_
      refine Cd.region ?_
      refine Ol.p addi ?_
      refine Ol.p mvi ?_
      refine Ol.nil ?_
      exact ⟨201 - (k + 1), by omega, k + 1, rfl, by omega, ⟨rfl, rfl, rfl, rfl, trivial⟩, congrArg (fun cs => [blk g4 (.cells Z 145), blk g3 (.cells (encV t) 145), blk g2 (.cells cs 145)]) (hput _ (by rw [hsk]; rfl)).symm⟩
  have hk2 : k = 201 := by
    have : ¬ (k : Int) < 201 := by simpa using h
    omega
  subst hk2
  rw [show (encV fun j => if j < 201 then s j && t j else s j) = encV fun j => s j && t j from encV_congr fun i hi => by rw [if_pos hi], hZ]
  refine Cd.exit (id := 0) ?_
  refine Cd.seq ?_
  refine Cd.region ?_
  refine Ol.p (ldw ag_ir_set (i := 2) rfl (encV_size _)) ?_
  refine Ol.s (stw sz_ir_set (encV_size _) (encV_one _) (i := 0) rfl (encV_size _)) ?_
  refine Ol.nil ?_
  exact Cd.ret ⟨.agg _, retc rfl ag_ir_set rfl (i := 0) rfl (encV_size _), [], .nil, rfl, rfl⟩
end
section
theorem P_ir_set_has_1_ct {w : World} {s : VS} {gs gb n : Nat} (hs : Reads w w.heap.size 1 (some ⟨gs, 0, none⟩) 201 (encV s).toList) (hb : Reads w w.heap.size 1 (some ⟨gb, 0, none⟩) 1 [.pointer (some ⟨gs, 0, none⟩)]) (hn : n < 201) :
    Ct Tryz.prog 160 #[.int .i64 (n : Int), .pointer (some ⟨gb, 0, none⟩)] w (Is (.bool (!s n))) := by
  have hget : (encV s).toList[n]? = some (.bool (s n)) := by rw [Array.getElem?_toList]; exact encV_get hn
  have h1 : Rd w w.heap.size [] ⟨gb, 0, none⟩ (.pointer (some ⟨gs, 0, none⟩)) := by
    have := Rd.slc (w0 := w) (B := w.heap.size) (L := []) (k := 0) hb rfl
    rw [ap_own] at this; exact this
  have h2 : Rd w w.heap.size [] ⟨gs, n, none⟩ (.bool (s n)) := by
    have := Rd.slc (w0 := w) (B := w.heap.size) (L := []) (k := n) hs hget
    rw [ap_own] at this; exact this
  refine Ct.mk Tryz.func160 rfl rfl ?_
  refine Cd.seq ?_
  refine Cd.region ?_
  refine Ol.p asb ?_
  refine Ol.nil ?_
  refine Cd.seq ?_
  refine Cd.region ?_
  refine Ol.p (ld one_P_ir_set h1) ?_
  refine Ol.p mvi ?_
  refine Ol.p nlc ?_
  refine Ol.p (ixl1 (ix := n) ar_ir_set) ?_
  refine Ol.p (ld one_bool h2) ?_
  refine Ol.p noti ?_
  refine Ol.p asb ?_
  refine Ol.nil ?_
  exact Cd.ret ⟨.bool _, ret1 rfl rfl, [], .nil, rfl, rfl⟩
theorem has_tells {w : World} {s : VS} {gs gb : Nat} {l : List Int} (hs : Reads w w.heap.size 1 (some ⟨gs, 0, none⟩) 201 (encV s).toList) (hb : Reads w w.heap.size 1 (some ⟨gb, 0, none⟩) 1 [.pointer (some ⟨gs, 0, none⟩)]) (hr : ∀ n ∈ l, 0 ≤ n ∧ n ≤ 200) :
    TellsI Tryz.prog w 160 #[] #[.pointer (some ⟨gb, 0, none⟩)] l fun n => !s n.toNat := ⟨en_P_ir_set_has_1, fun n hn w2 h2 => by
  obtain ⟨m, rfl⟩ : ∃ m : Nat, n = (m : Int) := ⟨n.toNat, by have := hr n hn; omega⟩
  exact P_ir_set_has_1_ct ((hs.below h2).more h2.size) ((hb.below h2).more h2.size) (by have := hr _ hn; omega)⟩
theorem P_ir_set_has_ct {w : World} {s : VS} {gs c : Nat} {A : Option Addr} {l : List Int} (hs : Reads w w.heap.size 1 (some ⟨gs, 0, none⟩) 201 (encV s).toList) (hl : Reads w w.heap.size 1 A l.length (ints l)) (hb : l.length < 2 ^ 62) (hr : ∀ n ∈ l, 0 ≤ n ∧ n ≤ 200) :
    Ct Tryz.prog 156 #[.pointer (some ⟨gs, 0, none⟩), .slice A l.length c] w (Is (.bool (hasV s l))) := by
  refine Ct.mk Tryz.func156 rfl rfl ?_
  refine Cd.seq ?_
  refine Cd.region ?_
  refine Ol.x bxp ?_
  rintro _ _ ⟨g2, rfl, rfl⟩
  refine Ol.p asb ?_
  refine Ol.nil ?_
  refine Cd.seq ?_
  refine Cd.region ?_
  refine Ol.p mvs ?_
  refine Ol.p mkf ?_
  refine Ol.s (cl en_slices_ContainsFunc_L_int_int (fun M w' hh => slices_ContainsFunc_L_int_int_ct (g := 160) (fst := #[]) (cap := #[.pointer (some ⟨g2, 0, none⟩)]) (p := fun n => !s n.toNat) (hl.now hh) hb (has_tells (hs.now hh) (Reads.blk hh (i := 0) rfl rfl (fun j u hu => by simpa using hu)) hr))) ?_
  refine Ol.p noti ?_
  refine Ol.p asb ?_
  refine Ol.nil ?_
  refine Cd.ret ⟨.bool _, ret1 rfl rfl, [], .nil, ?_, rfl⟩
  unfold hasV
  rw [List.not_any_eq_all_not]
  simp
end
end Go.Proofs.YtcojedoejpcolaaGreat

/- The document's answer of layer 03: instructions and ends, walked. -/
namespace Go.Proofs.YtcojedoejpcolaaGreat
set_option linter.unusedVariables false
set_option linter.unusedSimpArgs false
open Go Go.RowKit
set_option maxRecDepth 100000

section
variable {P : Program} {w0 : World} {B : Nat} {σ : Env} {L : List Res} {d : Option Nat} {ty T : TypeId} {pos : String} {af : Array Edge} {gd : Option (Nat × Bool)} {x y z : Operand} {v : Value}
theorem lnS {s : ByteArray} (hT : P.underlying T = some .string) (hx : ev σ x = .string s := by exact rfl) : Sd P w0 B ⟨d, .call { callee := .builtin .len, args := #[x], argTypes := #[T] }, ty, pos, af, gd⟩ σ L (.int .i64 s.size) :=
  sp_val fun _ => by simp [execOp, hx, resolve, invoke, builtin, Builtin.len_, run_underlying hT, goInt]
theorem ixS {s : ByteArray} {k : IntKind} {ix : Nat} (hT : P.underlying T = some .string) (hlt : ix < s.size) (hx : ev σ x = .string s := by exact rfl) (hy : ev σ y = .int k (ix : Int) := by exact rfl) : Sd P w0 B ⟨d, .index T x y, ty, pos, af, gd⟩ σ L (.int .u8 (s[ix]'hlt).toNat) :=
  sp_val fun w => by
    have h := run_index_string (P := P) w T s k (ix : Int) hT
    rw [dif_pos ⟨by omega, by omega⟩] at h
    simp only [Int.toNat_natCast] at h
    simp [execOp, hx, hy, h]
theorem eqS {a b : ByteArray} {u : TypeId} (hx : ev σ x = .string a := by exact rfl) (hy : ev σ y = .string b := by exact rfl) : Sd P w0 B ⟨d, .binOp .eql T x y u, ty, pos, af, gd⟩ σ L (.bool (a.toList == b.toList)) :=
  sp_val fun w => by simp [execOp, hx, hy, binOp, Op.stringOp, eqGuard]
end
/-- Which parts an Op has, as letters. -/
def hasS (o : Int) : List UInt8 := if o = 1 then [100, 105] else if 2 ≤ o ∧ o ≤ 10 then [100, 97, 98] else if o = 11 then [100, 97, 105] else if o = 12 then [97, 98, 105] else if o = 13 then [99] else if o = 14 then [100, 97] else []
def strB (l : List UInt8) : ByteArray := ⟨l.toArray⟩
theorem strB_size (l : List UInt8) : (strB l).size = l.length := by simp [strB, ByteArray.size]
theorem strB_list (l : List UInt8) : (strB l).toList = l := ByteArray.toList_mk l
theorem hasS_cases (o : Int) : (hasS o = [100, 105] ∧ shp o = (⟨true, false, false, true, false⟩, true) ∧ o ≠ 13) ∨ (hasS o = [100, 97, 98] ∧ shp o = (⟨true, true, true, false, false⟩, true) ∧ o ≠ 13) ∨ (hasS o = [100, 97, 105] ∧ shp o = (⟨true, true, false, true, false⟩, true) ∧ o ≠ 13) ∨ (hasS o = [97, 98, 105] ∧ shp o = (⟨false, true, true, true, false⟩, true) ∧ o ≠ 13) ∨ (hasS o = [99] ∧ shp o = (⟨false, false, false, false, true⟩, true) ∧ o = 13) ∨ (hasS o = [100, 97] ∧ shp o = (⟨true, true, false, false, false⟩, true) ∧ o ≠ 13) ∨ (hasS o = [] ∧ (shp o).2 = false ∧ o ≠ 13) := by
  unfold hasS shp
  by_cases h1 : o = 1
  · subst h1; exact .inl ⟨rfl, rfl, by decide⟩
  by_cases h11 : o = 11
  · subst h11; exact .inr (.inr (.inl ⟨rfl, rfl, by decide⟩))
  by_cases h12 : o = 12
  · subst h12; exact .inr (.inr (.inr (.inl ⟨rfl, rfl, by decide⟩)))
  by_cases h13 : o = 13
  · subst h13; exact .inr (.inr (.inr (.inr (.inl ⟨rfl, rfl, rfl⟩))))
  by_cases h14 : o = 14
  · subst h14; exact .inr (.inr (.inr (.inr (.inr (.inl ⟨rfl, rfl, by decide⟩)))))
  by_cases h2 : 2 ≤ o ∧ o ≤ 10
  · refine .inr (.inl ⟨by simp [h1, h2], by simp [h1, h11, h12, h13, h14, h2], h13⟩)
  · refine .inr (.inr (.inr (.inr (.inr (.inr ⟨by simp [h1, h2, h11, h12, h13, h14], ?_, h13⟩)))))
    simp only [h1, h11, h12, h13, h14, decide_false, cond_false]
    cases h3 : decide (2 ≤ o) with
    | false => rfl
    | true =>
      rw [Bool.true_and, decide_eq_false_iff_not]
      exact fun h => h2 ⟨of_decide_eq_true h3, h⟩
def partB (l : List UInt8) (c : UInt8) (n : Int) : Bool := bif l.contains c then varB n else decide (n = 0)

section
theorem ref03_Var_ct {w : World} {n : Int} : Ct Tryz.prog 78 #[.int .i64 n] w (Is (.bool (varB n))) := by
  refine Ct.mk Tryz.func78 rfl rfl ?_
  refine Cd.seq ?_
  refine Cd.region ?_
  refine Ol.p asb ?_
  refine Ol.nil ?_
  have e : varB n = (decide (1 ≤ n) && decide (n ≤ 200)) := rfl
  refine Cd.seq ?_
  cases q0 : decide (1 ≤ n) with
  | true =>
    refine Cd.region ?_
    refine Ol.p mvi ?_
    refine Ol.p gei ?_
    refine Ol.p mvb ?_
    refine Ol.gp q0 mvi ?_
    refine Ol.gp q0 lei ?_
    refine Ol.p (pkTb q0) ?_
    refine Ol.p asb ?_
    refine Ol.nil ?_
    refine Cd.ret ⟨.bool _, ret1 rfl rfl, [], Keep.nil, congrArg Value.bool ?_, rfl⟩
    rw [e, q0]; try rfl
  | false =>
    refine Cd.region ?_
    refine Ol.p mvi ?_
    refine Ol.p gei ?_
    refine Ol.p mvb ?_
    refine Ol.gn q0 ?_
    refine Ol.gn q0 ?_
    refine Ol.p (pkFb q0) ?_
    refine Ol.p asb ?_
    refine Ol.nil ?_
    refine Cd.ret ⟨.bool _, ret1 rfl rfl, [], Keep.nil, congrArg Value.bool ?_, rfl⟩
    rw [e, q0]; try rfl
end
section
theorem ref03_has_ct {w : World} {n : Int} : Ct Tryz.prog 76 #[.int .i64 n] w (Is (.string (strB (hasS n)))) := by
  refine Ct.mk Tryz.func76 rfl rfl ?_
  refine Cd.seq ?_
  refine Cd.region ?_
  refine Ol.p (as_ rfl) ?_
  refine Ol.nil ?_
  refine Cd.seq ?_
  refine Cd.block ?_   -- 0
  refine Cd.seq ?_
  refine Cd.region ?_
  refine Ol.p mvi ?_
  refine Ol.p eqi ?_
  refine Ol.p asb ?_
  refine Ol.nil ?_
  refine Cd.cond rfl (fun h => ?_) (fun h1 => ?_)   -- $3
  · have h : n = 1 := of_decide_eq_true h
    refine Cd.seq ?_
    refine Cd.region ?_
    refine Ol.p (as_ rfl) ?_
    refine Ol.nil ?_
    exact Cd.ret ⟨.string (strB [100, 105]), ret1 rfl rfl, [], .nil, by unfold hasS; simp [h], rfl⟩
  have h1 : ¬ n = 1 := of_decide_eq_false h1
  refine Cd.mid (fun σ' L' => Has σ' [(0, .int .i64 n), (6, .bool (decide (2 ≤ n ∧ n ≤ 10)))] ∧ [] = L') ?_ ?_
  · cases h2 : decide (2 ≤ n) with
    | true =>
      refine Cd.region ?_
      refine Ol.p mvi ?_
      refine Ol.p gei ?_
      refine Ol.p mvb ?_
      refine Ol.gp h2 mvi ?_
      refine Ol.gp h2 lei ?_
      refine Ol.p (pkTb h2) ?_
      refine Ol.p asb ?_
      refine Ol.nil ?_
      refine ⟨⟨rfl, congrArg Value.bool ?_, trivial⟩, rfl⟩
      have := of_decide_eq_true h2
      rw [decide_eq_decide]
      omega
    | false =>
      refine Cd.region ?_
      refine Ol.p mvi ?_
      refine Ol.p gei ?_
      refine Ol.p mvb ?_
      refine Ol.gn h2 ?_
      refine Ol.gn h2 ?_
      refine Ol.p (pkFb h2) ?_
      refine Ol.p asb ?_
      refine Ol.nil ?_
      refine ⟨⟨rfl, congrArg Value.bool ?_, trivial⟩, rfl⟩
      have := of_decide_eq_false h2
      exact (decide_eq_false (by omega)).symm
  rintro σ' _ ⟨hs', rfl⟩
  refine Cd.has hs' ?_
  clear hs'
  refine Cd.cond rfl (fun h => ?_) (fun h2 => ?_)   -- $6
  · have h : 2 ≤ n ∧ n ≤ 10 := of_decide_eq_true h
    refine Cd.seq ?_
    refine Cd.region ?_
    refine Ol.p (as_ rfl) ?_
    refine Ol.nil ?_
    exact Cd.ret ⟨.string (strB [100, 97, 98]), ret1 rfl rfl, [], .nil, by unfold hasS; simp [h1, h], rfl⟩
  have h2 : ¬ (2 ≤ n ∧ n ≤ 10) := of_decide_eq_false h2
  refine Cd.seq ?_
  refine Cd.region ?_
  refine Ol.p mvi ?_
  refine Ol.p eqi ?_
  refine Ol.p asb ?_
  refine Ol.nil ?_
  refine Cd.cond rfl (fun h => ?_) (fun h11 => ?_)
  · have h : n = 11 := of_decide_eq_true h
    refine Cd.seq ?_
    refine Cd.region ?_
    refine Ol.p (as_ rfl) ?_
    refine Ol.nil ?_
    exact Cd.ret ⟨.string (strB [100, 97, 105]), ret1 rfl rfl, [], .nil, by unfold hasS; simp [h], rfl⟩
  have h11 : ¬ n = 11 := of_decide_eq_false h11
  refine Cd.seq ?_
  refine Cd.region ?_
  refine Ol.p mvi ?_
  refine Ol.p eqi ?_
  refine Ol.p asb ?_
  refine Ol.nil ?_
  refine Cd.cond rfl (fun h => ?_) (fun h12 => ?_)
  · have h : n = 12 := of_decide_eq_true h
    refine Cd.seq ?_
    refine Cd.region ?_
    refine Ol.p (as_ rfl) ?_
    refine Ol.nil ?_
    exact Cd.ret ⟨.string (strB [97, 98, 105]), ret1 rfl rfl, [], .nil, by unfold hasS; simp [h], rfl⟩
  have h12 : ¬ n = 12 := of_decide_eq_false h12
  refine Cd.seq ?_
  refine Cd.region ?_
  refine Ol.p mvi ?_
  refine Ol.p eqi ?_
  refine Ol.p asb ?_
  refine Ol.nil ?_
  refine Cd.cond rfl (fun h => ?_) (fun h13 => ?_)
  · have h : n = 13 := of_decide_eq_true h
    refine Cd.seq ?_
    refine Cd.region ?_
    refine Ol.p (as_ rfl) ?_
    refine Ol.nil ?_
    exact Cd.ret ⟨.string (strB [99]), ret1 rfl rfl, [], .nil, by unfold hasS; simp [h], rfl⟩
  have h13 : ¬ n = 13 := of_decide_eq_false h13
  refine Cd.seq ?_
  refine Cd.region ?_
  refine Ol.p mvi ?_
  refine Ol.p eqi ?_
  refine Ol.p asb ?_
  refine Ol.nil ?_
  refine Cd.cond rfl (fun h => ?_) (fun h14 => ?_)
  · have h : n = 14 := of_decide_eq_true h
    refine Cd.seq ?_
    refine Cd.region ?_
    refine Ol.p (as_ rfl) ?_
    refine Ol.nil ?_
    exact Cd.ret ⟨.string (strB [100, 97]), ret1 rfl rfl, [], .nil, by unfold hasS; simp [h], rfl⟩
  have h14 : ¬ n = 14 := of_decide_eq_false h14
  refine Cd.skip ?_
  refine Cd.seq ?_
  refine Cd.region ?_
  refine Ol.p (as_ rfl) ?_
  refine Ol.nil ?_
  exact Cd.ret ⟨.string (strB []), ret1 rfl rfl, [], .nil, by unfold hasS; simp [h1, h2, h11, h12, h13, h14], rfl⟩
end
section
theorem hasS_len (o : Int) : (hasS o).length < 1000 := by
  rcases hasS_cases o with h | h | h | h | h | h | h <;> rw [h.1] <;> decide
theorem ref03_in_ct {w : World} {l : List UInt8} {c : UInt8} (hl : l.length < 1000) : Ct Tryz.prog 79 #[.string (strB l), .int .u8 c.toNat] w (Is (.bool (l.contains c))) := by
  have hsz := strB_size l
  refine Ct.mk Tryz.func79 rfl rfl ?_
  refine Cd.seq ?_
  refine Cd.region ?_
  refine Ol.p asb ?_
  refine Ol.nil ?_
  refine Cd.seq ?_
  refine Cd.seq ?_
  refine Cd.region ?_
  refine Ol.p asi ?_
  refine Ol.nil ?_
  refine Cd.block ?_   -- 0
  refine Cd.loop (fun m σ L => ∃ k, m = l.length - k ∧ k ≤ l.length ∧ (l.take k).contains c = false ∧ Has σ [(0, .string (strB l)), (1, .int .u8 c.toNat), (5, .int .i64 k)] ∧ [] = L) (n := l.length) ⟨0, rfl, Nat.zero_le _, rfl, ⟨rfl, rfl, rfl, trivial⟩, rfl⟩ ?_
  rintro _ σ L ⟨k, rfl, hk, hno, hs, rfl⟩
  refine Cd.has hs ?_
  clear hs
  refine Cd.seq ?_
  refine Cd.seq ?_
  refine Cd.region ?_
  refine Ol.p mvi ?_
  refine Ol.p (mv rfl) ?_
  refine Ol.p (lnS Tryz.underlying9) ?_
  refine Ol.p lsi ?_
  refine Ol.nil ?_
  refine Cd.cond rfl (fun h => ?_) (fun h => ?_)   -- $9
  · have hlt : k < (strB l).size := by
      have h : decide ((k : Int) < ((strB l).size : Int)) = true := h
      have := of_decide_eq_true h
      omega
    have hlt2 : k < l.length := by omega
    refine Cd.skip ?_
    refine Cd.seq ?_
    refine Cd.block ?_   -- 1
    refine Cd.seq ?_
    refine Cd.region ?_
    refine Ol.p (mv rfl) ?_
    refine Ol.p mvi ?_
    refine Ol.p (ixS Tryz.underlying9 hlt) ?_
    refine Ol.p mvi ?_
    refine Ol.p eqi ?_
    refine Ol.nil ?_
    have hg : (strB l)[k]'hlt = l[k] := rfl
    refine Cd.cond rfl (fun h2 => ?_) (fun h2 => ?_)   -- $16
    · have h2 : decide ((((strB l)[k]'hlt).toNat : Int) = (c.toNat : Int)) = true := h2
      have h2 := of_decide_eq_true h2
      rw [hg] at h2
      have e : l[k] = c := UInt8.toNat_inj.1 (by omega)
      refine Cd.seq ?_
      refine Cd.region ?_
      refine Ol.p asb ?_
      refine Ol.nil ?_
      exact Cd.ret ⟨.bool true, ret1 rfl rfl, [], .nil, by rw [List.contains_iff_mem.2 (e ▸ List.getElem_mem hlt2)], rfl⟩
    have h2 : decide ((((strB l)[k]'hlt).toNat : Int) = (c.toNat : Int)) = false := h2
    have h2 := of_decide_eq_false h2
    rw [hg] at h2
    have e : ¬ l[k] = c := fun e => h2 (by rw [e])
    refine Cd.skip ?_
    refine Cd.region ?_
    refine Ol.p mvi ?_
    refine Ol.p addi ?_
    refine Ol.p asi ?_
    refine Ol.nil ?_
    refine ⟨l.length - (k + 1), by omega, k + 1, rfl, by omega, ?_, ⟨rfl, rfl, rfl, trivial⟩, rfl⟩
    rw [take_snoc_ (List.getElem?_eq_getElem hlt2)]
    have hno' : c ∉ l.take k := fun hm => by rw [List.contains_iff_mem.2 hm] at hno; cases hno
    cases hc : (l.take k ++ [l[k]]).contains c with
    | false => rfl
    | true =>
      have := List.contains_iff_mem.1 hc
      rcases List.mem_append.1 this with h | h
      · exact absurd h hno'
      · exact absurd (List.mem_singleton.1 h).symm e
  have hke : k = l.length := by
    have h : decide ((k : Int) < ((strB l).size : Int)) = false := h
    have := of_decide_eq_false h
    omega
  rw [hke, List.take_length] at hno
  refine Cd.exit (id := 0) ?_
  refine Cd.seq ?_
  refine Cd.region ?_
  refine Ol.p asb ?_
  refine Ol.nil ?_
  exact Cd.ret ⟨.bool false, ret1 rfl rfl, [], .nil, by rw [hno], rfl⟩
end
section
theorem ref03_part_ct {w : World} {l : List UInt8} {c : UInt8} {n : Int} (hl : l.length < 1000) : Ct Tryz.prog 77 #[.string (strB l), .int .u8 c.toNat, .int .i64 n] w (Is (.bool (partB l c n))) := by
  refine Ct.mk Tryz.func77 rfl rfl ?_
  refine Cd.seq ?_
  refine Cd.region ?_
  refine Ol.p asb ?_
  refine Ol.nil ?_
  refine Cd.seq ?_
  refine Cd.seq ?_
  refine Cd.region ?_
  refine Ol.p (mv rfl) ?_
  refine Ol.p mvi ?_
  refine Ol.s (cl (v := .bool (l.contains c)) en_ref03_in (fun M w' hh => ref03_in_ct hl)) ?_
  refine Ol.nil ?_
  refine Cd.cond rfl (fun h => ?_) (fun h => ?_)   -- $9
  · refine Cd.seq ?_
    refine Cd.region ?_
    refine Ol.p mvi ?_
    refine Ol.s (cl en_ref03_Var (fun M w' hh => ref03_Var_ct)) ?_
    refine Ol.p asb ?_
    refine Ol.nil ?_
    exact Cd.ret ⟨.bool _, ret1 rfl rfl, [], .nil, by unfold partB; rw [h]; rfl, rfl⟩
  refine Cd.skip ?_
  refine Cd.seq ?_
  refine Cd.region ?_
  refine Ol.p mvi ?_
  refine Ol.p eqi ?_
  refine Ol.p asb ?_
  refine Ol.nil ?_
  exact Cd.ret ⟨.bool _, ret1 rfl rfl, [], .nil, by unfold partB; rw [h]; rfl, rfl⟩
end
section
theorem a2_get (a b : Int) : ∀ (j : Nat) (u : Value), [Value.int .i64 a, .int .i64 b][j]? = some u → (j = 0 ∧ u = .int .i64 a) ∨ (j = 1 ∧ u = .int .i64 b) := fun j u hu => by
  match j, hu with
  | 0, hu => cases hu; exact .inl ⟨rfl, rfl⟩
  | 1, hu => cases hu; exact .inr ⟨rfl, rfl⟩
  | j + 2, hu => simp at hu
theorem tell_a2 {a b c d : Int} : ∀ (i : Nat) (u v : Value), #[Value.int .i64 a, .int .i64 b][i]? = some u → #[Value.int .i64 c, .int .i64 d][i]? = some v → Tell (.int .i64) u v := fun i u v hu hv => by
  match i, hu, hv with
  | 0, hu, hv => cases hu; cases hv; exact Tell.int
  | 1, hu, hv => cases hu; cases hv; exact Tell.int
  | i + 2, hu, _ => simp at hu
theorem tm_a2 (t : Tm) : ∀ (j : Nat) (u : Value), #[Value.int .i64 t.t0, .int .i64 t.t1].toList[j]? = some u → t.cells.toArray[0 + 2 + j]? = some u := fun j u hu => by
  rcases a2_get _ _ j u hu with ⟨rfl, rfl⟩ | ⟨rfl, rfl⟩ <;> rfl
set_option maxHeartbeats 1000000 in
theorem ref03_IsTerm_ct {w : World} {t : Tm} : Ct Tryz.prog 36 #[t.val] w (Is (.bool (isTerm t))) := by
  refine Ct.mk Tryz.func36 rfl rfl ?_
  refine Cd.seq ?_
  refine Cd.region ?_
  refine Ol.x bxg ?_
  rintro _ _ ⟨g1, rfl, rfl⟩
  refine Ol.p asb ?_
  refine Ol.nil ?_
  refine Cd.seq ?_
  refine Cd.seq ?_
  refine Cd.region ?_
  refine Ol.p (fdl fd_api_Term_0) ?_
  refine Ol.p (ld (v := .int .i64 t.kind) one_api_TermKind (Rd.blk (i := 0) rfl rfl)) ?_
  refine Ol.nil ?_
  refine Cd.block ?_   -- 0
  refine Cd.seq ?_
  refine Cd.region ?_
  refine Ol.p eqi ?_
  refine Ol.p asb ?_
  refine Ol.nil ?_
  refine Cd.cond rfl (fun h => ?_) (fun h1 => ?_)   -- $5
  · have h : t.kind = 1 := of_decide_eq_true h
    have e : isTerm t = (decide (t.a = 0) && decide (t.t1 = 0)) := by unfold isTerm noneB; simp [h]
    refine Cd.seq ?_
    cases q0 : decide (t.a = 0) with
    | true =>
      refine Cd.region ?_
      refine Ol.p (fdl fd_api_Term_1) ?_
      refine Ol.p (ld (v := .int .i64 t.a) one_int (Rd.blk (i := 0) rfl rfl)) ?_
      refine Ol.p eqi ?_
      refine Ol.p mvb ?_
      refine Ol.gp q0 (fdl fd_api_Term_2) ?_
      refine Ol.gp q0 (ixl (ix := 1) ar_A2_int) ?_
      refine Ol.gp q0 (ld (v := .int .i64 t.t1) one_int (Rd.blk (i := 0) rfl rfl)) ?_
      refine Ol.gp q0 eqi ?_
      refine Ol.p (pkTb q0) ?_
      refine Ol.p asb ?_
      refine Ol.nil ?_
      refine Cd.ret ⟨.bool _, ret1 rfl rfl, [], Keep.nil, congrArg Value.bool ?_, rfl⟩
      rw [e, q0]; try rfl
    | false =>
      refine Cd.region ?_
      refine Ol.p (fdl fd_api_Term_1) ?_
      refine Ol.p (ld (v := .int .i64 t.a) one_int (Rd.blk (i := 0) rfl rfl)) ?_
      refine Ol.p eqi ?_
      refine Ol.p mvb ?_
      refine Ol.gn q0 ?_
      refine Ol.gn q0 ?_
      refine Ol.gn q0 ?_
      refine Ol.gn q0 ?_
      refine Ol.p (pkFb q0) ?_
      refine Ol.p asb ?_
      refine Ol.nil ?_
      refine Cd.ret ⟨.bool _, ret1 rfl rfl, [], Keep.nil, congrArg Value.bool ?_, rfl⟩
      rw [e, q0]; try rfl
  have h1 : ¬ t.kind = 1 := of_decide_eq_false h1
  refine Cd.seq ?_
  refine Cd.region ?_
  refine Ol.p eqi ?_
  refine Ol.p asb ?_
  refine Ol.nil ?_
  refine Cd.cond rfl (fun h => ?_) (fun h2 => ?_)   -- $16
  · have h : t.kind = 2 := of_decide_eq_true h
    have e : isTerm t = varB t.a := by unfold isTerm; simp [h]
    refine Cd.seq ?_
    refine Cd.region ?_
    refine Ol.p (fdl fd_api_Term_1) ?_
    refine Ol.p (ld (v := .int .i64 t.a) one_int (Rd.blk (i := 0) rfl rfl)) ?_
    refine Ol.s (cl en_ref03_Var (fun M w' hh => ref03_Var_ct)) ?_
    refine Ol.p asb ?_
    refine Ol.nil ?_
    exact Cd.ret ⟨.bool _, ret1 rfl rfl, [], Keep.nil, by rw [e], rfl⟩
  have h2 : ¬ t.kind = 2 := of_decide_eq_false h2
  refine Cd.seq ?_
  refine Cd.region ?_
  refine Ol.p eqi ?_
  refine Ol.p asb ?_
  refine Ol.nil ?_
  refine Cd.cond rfl (fun h => ?_) (fun h3 => ?_)   -- $21
  · have h : t.kind = 3 := of_decide_eq_true h
    have e : isTerm t = ((bif decide (t.a = 0) then true else varB t.a) && decide (t.t0 = 0 ∧ t.t1 = 0)) := by
      unfold isTerm noneB fitsB
      cases h9 : decide (t.a = 0) <;> simp [h]
    refine Cd.seq ?_
    cases qa : decide (t.a = 0) with
    | true =>
      refine Cd.region ?_
      refine Ol.p (fdl fd_api_Term_1) ?_
      refine Ol.p (ld (v := .int .i64 t.a) one_int (Rd.blk (i := 0) rfl rfl)) ?_
      refine Ol.p eqi ?_
      refine Ol.p mvb ?_
      refine Ol.gn qa ?_
      refine Ol.gn qa ?_
      refine Ol.gn qa ?_
      refine Ol.p (pkTb qa) ?_
      refine Ol.p mvb ?_
      refine Ol.gp rfl (fdl fd_api_Term_2) ?_
      refine Ol.gp rfl (ldp (k := 0 + 2) (vs := #[.int .i64 t.t0, .int .i64 t.t1]) ag_A2_int (i := 0) rfl rfl (tm_a2 t)) ?_
      refine Ol.gp rfl (bda (cs := #[.int .i64 0, .int .i64 0]) ar_A2_int zr_A2_int (hf := by kernel_rfl)) ?_
      refine Ol.gp rfl (eqa (r := decide (t.t0 = 0 ∧ t.t1 = 0)) (xs := #[.int .i64 t.t0, .int .i64 t.t1]) (ys := #[.int .i64 0, .int .i64 0]) cm_A2_int rfl rfl tell_a2 (by simp)) ?_
      refine Ol.p (pkTb rfl) ?_
      refine Ol.p asb ?_
      refine Ol.nil ?_
      refine Cd.ret ⟨.bool _, ret1 rfl rfl, [], Keep.nil, congrArg Value.bool ?_, rfl⟩
      rw [e, qa]; rfl
    | false =>
      cases qv : varB t.a with
      | true =>
        refine Cd.region ?_
        refine Ol.p (fdl fd_api_Term_1) ?_
        refine Ol.p (ld (v := .int .i64 t.a) one_int (Rd.blk (i := 0) rfl rfl)) ?_
        refine Ol.p eqi ?_
        refine Ol.p mvb ?_
        refine Ol.gp qa (fdl fd_api_Term_1) ?_
        refine Ol.gp qa (ld (v := .int .i64 t.a) one_int (Rd.blk (i := 0) rfl rfl)) ?_
        refine Ol.gs qa (cl en_ref03_Var (fun M w' hh => ref03_Var_ct)) ?_
        refine Ol.p (pkFb qa) ?_
        refine Ol.p mvb ?_
        refine Ol.gp qv (fdl fd_api_Term_2) ?_
        refine Ol.gp qv (ldp (k := 0 + 2) (vs := #[.int .i64 t.t0, .int .i64 t.t1]) ag_A2_int (i := 0) rfl rfl (tm_a2 t)) ?_
        refine Ol.gp qv (bda (cs := #[.int .i64 0, .int .i64 0]) ar_A2_int zr_A2_int (hf := by kernel_rfl)) ?_
        refine Ol.gp qv (eqa (r := decide (t.t0 = 0 ∧ t.t1 = 0)) (xs := #[.int .i64 t.t0, .int .i64 t.t1]) (ys := #[.int .i64 0, .int .i64 0]) cm_A2_int rfl rfl tell_a2 (by simp)) ?_
        refine Ol.p (pkTb qv) ?_
        refine Ol.p asb ?_
        refine Ol.nil ?_
        refine Cd.ret ⟨.bool _, ret1 rfl rfl, [], Keep.nil, congrArg Value.bool ?_, rfl⟩
        rw [e, qa, qv]; rfl
      | false =>
        refine Cd.region ?_
        refine Ol.p (fdl fd_api_Term_1) ?_
        refine Ol.p (ld (v := .int .i64 t.a) one_int (Rd.blk (i := 0) rfl rfl)) ?_
        refine Ol.p eqi ?_
        refine Ol.p mvb ?_
        refine Ol.gp qa (fdl fd_api_Term_1) ?_
        refine Ol.gp qa (ld (v := .int .i64 t.a) one_int (Rd.blk (i := 0) rfl rfl)) ?_
        refine Ol.gs qa (cl en_ref03_Var (fun M w' hh => ref03_Var_ct)) ?_
        refine Ol.p (pkFb qa) ?_
        refine Ol.p mvb ?_
        refine Ol.gn qv ?_
        refine Ol.gn qv ?_
        refine Ol.gn qv ?_
        refine Ol.gn qv ?_
        refine Ol.p (pkFb qv) ?_
        refine Ol.p asb ?_
        refine Ol.nil ?_
        refine Cd.ret ⟨.bool _, ret1 rfl rfl, [], Keep.nil, congrArg Value.bool ?_, rfl⟩
        rw [e, qa, qv]; rfl
  have h3 : ¬ t.kind = 3 := of_decide_eq_false h3
  refine Cd.seq ?_
  refine Cd.region ?_
  refine Ol.p eqi ?_
  refine Ol.p asb ?_
  refine Ol.nil ?_
  refine Cd.cond rfl (fun h => ?_) (fun h4 => ?_)   -- $37
  · have h : t.kind = 4 := of_decide_eq_true h
    have e : isTerm t = (decide (t.a = 0) && decide (t.t0 = 0 ∧ t.t1 = 0)) := by unfold isTerm noneB; simp [h]
    refine Cd.seq ?_
    cases q0 : decide (t.a = 0) with
    | true =>
      refine Cd.region ?_
      refine Ol.p (fdl fd_api_Term_1) ?_
      refine Ol.p (ld (v := .int .i64 t.a) one_int (Rd.blk (i := 0) rfl rfl)) ?_
      refine Ol.p eqi ?_
      refine Ol.p mvb ?_
      refine Ol.gp q0 (fdl fd_api_Term_2) ?_
      refine Ol.gp q0 (ldp (k := 0 + 2) (vs := #[.int .i64 t.t0, .int .i64 t.t1]) ag_A2_int (i := 0) rfl rfl (tm_a2 t)) ?_
      refine Ol.gp q0 (bda (cs := #[.int .i64 0, .int .i64 0]) ar_A2_int zr_A2_int (hf := by kernel_rfl)) ?_
      refine Ol.gp q0 (eqa (r := decide (t.t0 = 0 ∧ t.t1 = 0)) (xs := #[.int .i64 t.t0, .int .i64 t.t1]) (ys := #[.int .i64 0, .int .i64 0]) cm_A2_int rfl rfl tell_a2 (by simp)) ?_
      refine Ol.p (pkTb q0) ?_
      refine Ol.p asb ?_
      refine Ol.nil ?_
      refine Cd.ret ⟨.bool _, ret1 rfl rfl, [], Keep.nil, congrArg Value.bool ?_, rfl⟩
      rw [e, q0]; try rfl
    | false =>
      refine Cd.region ?_
      refine Ol.p (fdl fd_api_Term_1) ?_
      refine Ol.p (ld (v := .int .i64 t.a) one_int (Rd.blk (i := 0) rfl rfl)) ?_
      refine Ol.p eqi ?_
      refine Ol.p mvb ?_
      refine Ol.gn q0 ?_
      refine Ol.gn q0 ?_
      refine Ol.gn q0 ?_
      refine Ol.gn q0 ?_
      refine Ol.p (pkFb q0) ?_
      refine Ol.p asb ?_
      refine Ol.nil ?_
      refine Cd.ret ⟨.bool _, ret1 rfl rfl, [], Keep.nil, congrArg Value.bool ?_, rfl⟩
      rw [e, q0]; try rfl
  have h4 : ¬ t.kind = 4 := of_decide_eq_false h4
  refine Cd.skip ?_
  refine Cd.seq ?_
  refine Cd.region ?_
  refine Ol.p asb ?_
  refine Ol.nil ?_
  exact Cd.ret ⟨.bool false, ret1 rfl rfl, [], Keep.nil, by unfold isTerm; simp [h1, h2, h3, h4], rfl⟩
theorem ref03_Needs_ct {w : World} {t : Tm} : Ct Tryz.prog 41 #[t.val] w (NewL 3 1 (needsL t).length (ints (needsL t))) := by
  refine Ct.mk Tryz.func41 rfl rfl ?_
  refine Cd.seq ?_
  refine Cd.region ?_
  refine Ol.x bxg ?_
  rintro _ _ ⟨g1, rfl, rfl⟩
  refine Ol.p ass ?_
  refine Ol.nil ?_
  have e : needsL t = bif (bif !isTerm t then true else decide (t.a = 0)) then [] else [t.a] := by
    unfold needsL
    cases isTerm t <;> cases decide (t.a = 0) <;> rfl
  refine Cd.seq ?_
  refine Cd.mid (fun σ' L' => Has σ' [(1, .pointer (some ⟨g1, 0, none⟩)), (10, .bool (bif !isTerm t then true else decide (t.a = 0)))] ∧ [blk g1 (.cells t.cells.toArray 30)] = L') ?_ ?_
  · cases q0 : (!isTerm t) with
    | true =>
      refine Cd.region ?_
      refine Ol.p (ldw (cs := t.cells.toArray) ag_api_Term (i := 0) rfl rfl) ?_
      refine Ol.s (cl en_ref03_IsTerm (fun M w' hh => ref03_IsTerm_ct (t := t))) ?_
      refine Ol.p noti ?_
      refine Ol.p mvb ?_
      refine Ol.gn q0 ?_
      refine Ol.gn q0 ?_
      refine Ol.gn q0 ?_
      refine Ol.p (pkTb q0) ?_
      refine Ol.nil ?_
      exact ⟨⟨rfl, rfl, trivial⟩, rfl⟩
    | false =>
      refine Cd.region ?_
      refine Ol.p (ldw (cs := t.cells.toArray) ag_api_Term (i := 0) rfl rfl) ?_
      refine Ol.s (cl en_ref03_IsTerm (fun M w' hh => ref03_IsTerm_ct (t := t))) ?_
      refine Ol.p noti ?_
      refine Ol.p mvb ?_
      refine Ol.gp q0 (fdl fd_api_Term_1) ?_
      refine Ol.gp q0 (ld (v := .int .i64 t.a) one_int (Rd.blk (i := 0) rfl rfl)) ?_
      refine Ol.gp q0 eqi ?_
      refine Ol.p (pkFb q0) ?_
      refine Ol.nil ?_
      exact ⟨⟨rfl, rfl, trivial⟩, rfl⟩
  rintro σ' _ ⟨hs', rfl⟩
  refine Cd.has hs' ?_
  clear hs'
  refine Cd.cond rfl (fun h => ?_) (fun h => ?_)   -- $10
  · rw [h] at e
    rw [e]
    refine Cd.seq ?_
    refine Cd.region ?_
    refine Ol.p ass ?_
    refine Ol.nil ?_
    refine Cd.nr 3 1 ?_
    exact Cd.ret ⟨.slice none 0 0, ret1 rfl rfl, _, .sub (.cons_cons _ (.cons _ .slnil)), none, 0, rfl, rfl⟩
  rw [h] at e
  rw [e]
  refine Cd.skip ?_
  refine Cd.seq ?_
  refine Cd.region ?_
  refine Ol.p (fdl fd_api_Term_1) ?_
  refine Ol.p (ld (v := .int .i64 t.a) one_int (Rd.blk (i := 0) rfl rfl)) ?_
  refine Ol.x (bsv [.int .i64 t.a] sl_L_int zr_int (by simp [Value.cells])) ?_
  rintro _ _ ⟨g13, rfl, rfl⟩
  refine Ol.p ass ?_
  refine Ol.nil ?_
  exact Cd.ret ⟨.slice _ _ _, ret1 rfl rfl, _, .sub (.cons_cons _ (.cons _ .slnil)), _, _, rfl, rfl⟩
theorem ref03_To_ct {w : World} {t : Tm} : Ct Tryz.prog 42 #[t.val] w (NewL 3 1 (toL t).length (ints (toL t))) := by
  refine Ct.mk Tryz.func42 rfl rfl ?_
  refine Cd.seq ?_
  refine Cd.region ?_
  refine Ol.x bxg ?_
  rintro _ _ ⟨g1, rfl, rfl⟩
  refine Ol.p ass ?_
  refine Ol.nil ?_
  refine Cd.seq ?_
  refine Cd.seq ?_
  refine Cd.region ?_
  refine Ol.p (ldw (cs := t.cells.toArray) ag_api_Term (i := 0) rfl rfl) ?_
  refine Ol.s (cl en_ref03_IsTerm (fun M w' hh => ref03_IsTerm_ct (t := t))) ?_
  refine Ol.p noti ?_
  refine Ol.nil ?_
  refine Cd.cond rfl (fun h => ?_) (fun h => ?_)   -- $5
  · have h0 : isTerm t = false := by simpa using h
    have e : toL t = [] := by unfold toL; rw [h0]; rfl
    rw [e]
    refine Cd.seq ?_
    refine Cd.region ?_
    refine Ol.p ass ?_
    refine Ol.nil ?_
    refine Cd.nr 3 1 ?_
    exact Cd.ret ⟨.slice none 0 0, ret1 rfl rfl, _, .sub (.cons_cons _ (.cons _ .slnil)), none, 0, rfl, rfl⟩
  have h0 : isTerm t = true := by simpa using h
  refine Cd.skip ?_
  refine Cd.seq ?_
  refine Cd.seq ?_
  refine Cd.region ?_
  refine Ol.p (fdl fd_api_Term_0) ?_
  refine Ol.p (ld (v := .int .i64 t.kind) one_api_TermKind (Rd.blk (i := 0) rfl rfl)) ?_
  refine Ol.nil ?_
  refine Cd.block ?_   -- 0
  refine Cd.seq ?_
  refine Cd.region ?_
  refine Ol.p eqi ?_
  refine Ol.p asb ?_
  refine Ol.nil ?_
  refine Cd.cond rfl (fun h1 => ?_) (fun h1 => ?_)   -- $8
  · have e : toL t = [t.t0] := by unfold toL; rw [h0, h1]; rfl
    rw [e]
    refine Cd.seq ?_
    refine Cd.region ?_
    refine Ol.p (fdl fd_api_Term_2) ?_
    refine Ol.p (ixl (ix := 0) ar_A2_int) ?_
    refine Ol.p (ld (v := .int .i64 t.t0) one_int (Rd.blk (i := 0) rfl rfl)) ?_
    refine Ol.x (bsv [.int .i64 t.t0] sl_L_int zr_int (by simp [Value.cells])) ?_
    rintro _ _ ⟨g13, rfl, rfl⟩
    refine Ol.p ass ?_
    refine Ol.nil ?_
    exact Cd.ret ⟨.slice _ _ _, ret1 rfl rfl, _, .sub (.cons_cons _ (.cons _ .slnil)), _, _, rfl, rfl⟩
  refine Cd.seq ?_
  refine Cd.region ?_
  refine Ol.p eqi ?_
  refine Ol.p asb ?_
  refine Ol.nil ?_
  refine Cd.cond rfl (fun h2 => ?_) (fun h2 => ?_)   -- $14
  · have e : toL t = [t.t0, t.t1] := by unfold toL; rw [h0, h1, h2]; rfl
    rw [e]
    refine Cd.seq ?_
    refine Cd.region ?_
    refine Ol.p (fdl fd_api_Term_2) ?_
    refine Ol.p (ixl (ix := 0) ar_A2_int) ?_
    refine Ol.p (ld (v := .int .i64 t.t0) one_int (Rd.blk (i := 0) rfl rfl)) ?_
    refine Ol.p (fdl fd_api_Term_2) ?_
    refine Ol.p (ixl (ix := 1) ar_A2_int) ?_
    refine Ol.p (ld (v := .int .i64 t.t1) one_int (Rd.blk (i := 0) rfl rfl)) ?_
    refine Ol.x (bsv [.int .i64 t.t0, .int .i64 t.t1] sl_L_int zr_int (by simp [Value.cells])) ?_
    rintro _ _ ⟨g13, rfl, rfl⟩
    refine Ol.p ass ?_
    refine Ol.nil ?_
    exact Cd.ret ⟨.slice _ _ _, ret1 rfl rfl, _, .sub (.cons_cons _ (.cons _ .slnil)), _, _, rfl, rfl⟩
  have e : toL t = [] := by unfold toL; rw [h0, h1, h2]; rfl
  rw [e]
  refine Cd.skip ?_
  refine Cd.seq ?_
  refine Cd.region ?_
  refine Ol.p ass ?_
  refine Ol.nil ?_
  refine Cd.nr 3 1 ?_
  exact Cd.ret ⟨.slice none 0 0, ret1 rfl rfl, _, .sub (.cons_cons _ (.cons _ .slnil)), none, 0, rfl, rfl⟩
end
end Go.Proofs.YtcojedoejpcolaaGreat

/- The document's answer of layer 03: instructions, walked. -/
namespace Go.Proofs.YtcojedoejpcolaaGreat
set_option linter.unusedVariables false
set_option linter.unusedSimpArgs false
open Go Go.RowKit
set_option maxRecDepth 100000

section
def refB2 (i : RIns) : Bool := ((strB (hasS i.op)).toList == (strB []).toList) || ((!decide (i.many = 0)) || ((!partB (hasS i.op) 97 i.a) || (!partB (hasS i.op) 98 i.b)))
def refDst (i : RIns) : Bool := bif decide (i.dst = 0) then true else varB i.dst
def refCall (i : RIns) : Bool := decide ((i.args.length : Int) ≤ 8) && (decide (0 ≤ i.callee) && (decide (i.callee ≤ 99) && (refDst i && decide (i.imm = 0))))
def refImm (i : RIns) : Bool := bif decide (i.imm = 0) then true else (bif (hasS i.op).contains 105 then (bif decide (-1099511627776 ≤ i.imm) then decide (i.imm ≤ 1099511627776) else false) else false)
def refRest (i : RIns) : Bool := partB (hasS i.op) 100 i.dst && (refImm i && (decide (i.callee = 0) && decide ((i.args.length : Int) = 0)))
theorem isIns_ref (i : RIns) : isIns i = bif refB2 i then false else bif ((strB (hasS i.op)).toList == (strB [99]).toList) then (i.args.all varB && refCall i) else refRest i := by
  have hdst : ∀ n : Int, fitsB (!decide (n = 0)) n = bif decide (n = 0) then true else varB n := fun n => by
    unfold fitsB
    cases h : decide (n = 0) <;> simp [h]
  have hlen : decide ((i.args.length : Int) ≤ 8) = decide (i.args.length ≤ 8) := by rw [decide_eq_decide]; omega
  have hlen0 : decide ((i.args.length : Int) = 0) = decide (i.args.length = 0) := by rw [decide_eq_decide]; omega
  have himm : (decide (-1099511627776 ≤ i.imm)) = !decide (i.imm < -1099511627776) := by
    cases h : decide (i.imm < -1099511627776)
    · have := of_decide_eq_false h; exact decide_eq_true (by omega)
    · have := of_decide_eq_true h; exact decide_eq_false (by omega)
  have himm2 : (decide (i.imm ≤ 1099511627776)) = !decide (1099511627776 < i.imm) := by
    cases h : decide (1099511627776 < i.imm)
    · have := of_decide_eq_false h; exact decide_eq_true (by omega)
    · have := of_decide_eq_true h; exact decide_eq_false (by omega)
  have hz : ∀ h : decide (i.imm = 0) = true, decide (i.imm < -1099511627776) = false ∧ decide (1099511627776 < i.imm) = false := fun h => by
    have := of_decide_eq_true h
    exact ⟨decide_eq_false (by omega), decide_eq_false (by omega)⟩
  unfold isIns refB2 refRest refImm refCall refDst partB noneB
  rw [strB_list, strB_list, strB_list, hdst, hlen, hlen0, himm, himm2]
  generalize hA : i.args.all varB = aa
  generalize hM : decide (i.many = 0) = mm
  generalize hL : decide (i.args.length ≤ 8) = ll
  generalize hL0 : decide (i.args.length = 0) = l0
  generalize hC0 : decide (0 ≤ i.callee) = c0
  generalize hC9 : decide (i.callee ≤ 99) = c9
  generalize hCz : decide (i.callee = 0) = cz
  generalize hD : decide (i.dst = 0) = dd
  generalize hDv : varB i.dst = dv
  generalize hAz : decide (i.a = 0) = az
  generalize hAv : varB i.a = av
  generalize hBz : decide (i.b = 0) = bz
  generalize hBv : varB i.b = bv
  generalize hI1 : decide (i.imm < -1099511627776) = i1 at hz ⊢
  generalize hI2 : decide (1099511627776 < i.imm) = i2 at hz ⊢
  generalize hIz : decide (i.imm = 0) = iz at hz ⊢
  have hz' : iz = true → i1 = false ∧ i2 = false := hz
  clear hz
  rcases hasS_cases i.op with ⟨h1, h2, _⟩ | ⟨h1, h2, _⟩ | ⟨h1, h2, _⟩ | ⟨h1, h2, _⟩ | ⟨h1, h2, _⟩ | ⟨h1, h2, _⟩ | ⟨h1, h2, _⟩
  all_goals
    rw [h1]
    simp only [h2, fitsB, List.all_cons, List.all_nil, hAz, hAv, hBz, hBv, hD, hDv, hIz]
    cases iz
    all_goals
      first
        | (obtain ⟨e1, e2⟩ := hz' rfl; subst e1; subst e2)
        | skip
    all_goals (cases mm <;> (try cases i1) <;> (try cases i2) <;> simp [Bool.and_assoc, Bool.and_comm, Bool.and_left_comm])
end
end Go.Proofs.YtcojedoejpcolaaGreat

/- What is reached from some blocks through open ones: plain Lean. -/
namespace Go.Proofs.YtcojedoejpcolaaGreat
set_option linter.unusedVariables false
open Go Go.RowKit

def toAt (ts : List Tm) (b : Nat) : List Int := match ts[b]? with
  | some t => toL t
  | none => []
theorem toAt_some {ts : List Tm} {b : Nat} {t : Tm} (h : ts[b]? = some t) : toAt ts b = toL t := by unfold toAt; rw [h]
def nextL (ts : List Tm) (s : Nat) (l : List Nat) : Nat := l.foldl (fun s b => withL s (toAt ts b)) s
def stepS (ts : List Tm) (op s : Nat) : Nat := nextL ts s (listS s) &&& op
def iterF {α : Type} (f : α → α) : Nat → α → α
  | 0, a => a
  | n + 1, a => f (iterF f n a)
def reachS (ts : List Tm) (op s : Nat) : Nat := iterF (stepS ts op) 1025 s
def Sub (s t : Nat) : Prop := ∀ i, s.testBit i = true → t.testBit i = true
theorem Sub.refl (s : Nat) : Sub s s := fun _ h => h
theorem Sub.trans {a b c : Nat} (h : Sub a b) (k : Sub b c) : Sub a c := fun i hi => k i (h i hi)
theorem Sub.eq {a b : Nat} (h : Sub a b) (k : Sub b a) : a = b := Nat.eq_of_testBit_eq fun i => by
  cases ha : a.testBit i <;> cases hb : b.testBit i <;> first | rfl | (have := h i ha; rw [hb] at this; cases this) | (have := k i hb; rw [ha] at this; cases this)
theorem Sub.sm {a b : Nat} (h : Sub a b) (hb : Sm b) : Sm a := fun n hn => by
  cases ha : a.testBit n with
  | false => rfl
  | true => have := h n ha; rw [hb n hn] at this; cases this
theorem testBit_nextL (ts : List Tm) : ∀ (l : List Nat) (s i : Nat), (nextL ts s l).testBit i = (s.testBit i || (okN i && l.any fun b => (toAt ts b).contains (i : Int)))
  | [], s, i => by simp [nextL]
  | b :: l, s, i => by
    show (nextL ts (withL s (toAt ts b)) l).testBit i = _
    rw [testBit_nextL ts l, testBit_withL, List.any_cons]
    cases s.testBit i <;> cases okN (i : Int) <;> simp
theorem nextL_sm {ts : List Tm} {l : List Nat} {s : Nat} (hs : Sm s) : Sm (nextL ts s l) := fun n hn => by
  rw [testBit_nextL, hs n hn]
  have : okN (n : Int) = false := by
    cases h : okN (n : Int) with
    | false => rfl
    | true => rw [okN_iff] at h; omega
  rw [this]; rfl
theorem nextL_snoc {ts : List Tm} {s : Nat} {l : List Nat} {k b : Nat} (h : l[k]? = some b) : nextL ts s (l.take (k + 1)) = withL (nextL ts s (l.take k)) (toAt ts b) := by
  rw [take_snoc_ h]; unfold nextL; rw [List.foldl_append]; rfl
theorem stepS_sm {ts : List Tm} {op s : Nat} (hs : Sm s) : Sm (stepS ts op s) := and_sm (nextL_sm hs)
theorem sub_step {ts : List Tm} {op s : Nat} (h : Sub s op) : Sub s (stepS ts op s) := fun i hi => by
  unfold stepS
  rw [Nat.testBit_and, testBit_nextL, hi, h i hi]; rfl
theorem step_sub (ts : List Tm) (op s : Nat) : Sub (stepS ts op s) op := fun i hi => by
  unfold stepS at hi
  rw [Nat.testBit_and] at hi
  simp only [Bool.and_eq_true] at hi
  exact hi.2
/-- One is in what comes next, just if it was there, or an edge from one that was there goes to it, and it is open. -/
theorem mem_step {ts : List Tm} {op s i : Nat} (hs : Sm s) : (stepS ts op s).testBit i = true ↔ op.testBit i = true ∧ (s.testBit i = true ∨ (i < 1024 ∧ ∃ b, s.testBit b = true ∧ (i : Int) ∈ toAt ts b)) := by
  unfold stepS
  rw [Nat.testBit_and, testBit_nextL]
  simp only [Bool.and_eq_true, Bool.or_eq_true, List.any_eq_true, List.contains_iff_mem]
  constructor
  · rintro ⟨h1 | ⟨h1, b, h2, h3⟩, h4⟩
    · exact ⟨h4, .inl h1⟩
    · exact ⟨h4, .inr ⟨by rw [okN_iff] at h1; omega, b, (mem_listS.1 h2).2, h3⟩⟩
  · rintro ⟨h4, h1 | ⟨h1, b, h2, h3⟩⟩
    · exact ⟨.inl h1, h4⟩
    · refine ⟨.inr ⟨by rw [okN_iff]; omega, b, mem_listS.2 ⟨?_, h2⟩, h3⟩, h4⟩
      rcases Nat.lt_or_ge b 1024 with h | h
      · exact h
      · rw [hs b h] at h2; cases h2
theorem upto_len_mono {s t : Nat} (h : Sub s t) : ∀ n, (upto s n).length ≤ (upto t n).length
  | 0 => by simp [upto_zero]
  | n + 1 => by
    have ih := upto_len_mono h n
    rw [upto_succ, upto_succ, List.length_append, List.length_append]
    cases hs : s.testBit n with
    | false => simp; omega
    | true => rw [h n hs]; simp; omega
theorem upto_len_lt {s t i : Nat} (h : Sub s t) (h1 : s.testBit i = false) (h2 : t.testBit i = true) : ∀ n, i < n → (upto s n).length < (upto t n).length
  | 0, hn => by omega
  | n + 1, hn => by
    rw [upto_succ, upto_succ, List.length_append, List.length_append]
    by_cases he : i = n
    · subst he
      rw [h1, h2]
      have := upto_len_mono h i
      simp; omega
    · have ih := upto_len_lt h h1 h2 n (by omega)
      cases hs : s.testBit n with
      | false => simp; omega
      | true => rw [h n hs]; simp; omega
theorem listS_lt {s t : Nat} (h : Sub s t) (ht : Sm t) (hne : s ≠ t) : (listS s).length < (listS t).length := by
  have : ∃ i, s.testBit i = false ∧ t.testBit i = true := by
    apply Classical.byContradiction
    intro hc
    apply hne
    refine h.eq fun i hi => ?_
    cases hs : s.testBit i with
    | true => rfl
    | false => exact absurd ⟨i, hs, hi⟩ hc
  obtain ⟨i, h1, h2⟩ := this
  refine upto_len_lt h h1 h2 1024 ?_
  rcases Nat.lt_or_ge i 1024 with hi | hi
  · exact hi
  · rw [ht i hi] at h2; cases h2
theorem iter_fix {α : Type} {f : α → α} {a : α} {k : Nat} (h : f (iterF f k a) = iterF f k a) : ∀ m, k ≤ m → iterF f m a = iterF f k a
  | 0, hm => by rw [show k = 0 by omega]
  | m + 1, hm => by
    by_cases he : k = m + 1
    · rw [he]
    · show f (iterF f m a) = _
      rw [iter_fix h m (by omega)]; exact h
/-- The blocks, all of them. -/
def allS (n : Nat) : Nat := (List.range n).foldl (fun s (b : Nat) => withL s [(b : Int)]) 0
theorem allS_succ (n : Nat) : allS (n + 1) = withL (allS n) [(n : Int)] := by unfold allS; rw [List.range_succ, List.foldl_append, List.foldl_cons, List.foldl_nil]
theorem testBit_allS : ∀ (n i : Nat), n ≤ 1024 → (allS n).testBit i = decide (i < n)
  | 0, i, _ => by simp [allS]
  | n + 1, i, h => by
    rw [allS_succ, testBit_withL, testBit_allS n i (by omega)]
    by_cases he : i = n
    · subst he
      have : okN (i : Int) = true := by rw [okN_iff]; omega
      simp [this]
    · have h1 : ([(n : Int)].contains (i : Int)) = false := by simp; omega
      rw [h1]
      simp; omega
theorem allS_sm {n : Nat} (h : n ≤ 1024) : Sm (allS n) := fun i hi => by rw [testBit_allS n i h]; simp; omega
/-- What Reached tells. -/
def reachedF (ts : List Tm) (fr nt : List Int) : List Nat := bif closed ts then listS (reachS ts (lessL (allS ts.length) nt) (lessL (allS ts.length) nt &&& ofL fr)) else []
end Go.Proofs.YtcojedoejpcolaaGreat

/- Blocks of one's own behind a slice; the order of a walk in depth. -/
namespace Go.Proofs.YtcojedoejpcolaaGreat
set_option linter.unusedVariables false
open Go Go.RowKit

/-- A row of one's own is a block. -/
theorem Hp.unrow {w0 w : World} {B g n c e s : Nat} {M L : List Res} {xs : List Value} (h : Hp w0 B (M ++ (row (.slice (some ⟨g, 0, none⟩) n c) e s n xs :: L)) w) : ∃ cs : Array Value, cs.size = c * s ∧ cs.toList.take (n * s) = xs ∧ Hp w0 B (M ++ (blk g (.cells cs e) :: L)) w := by
  have hr : w.ownsRow 0 e s (.slice (some ⟨g, 0, none⟩) n c) n xs := h.has (row (.slice (some ⟨g, 0, none⟩) n c) e s n xs) (by simp)
  rcases hr.2 with ⟨h1, _⟩ | ⟨g', cap, cur, hv, _, hg, _, _, hs, ht⟩
  · cases h1
  · injection hv with h1 _ h3
    cases h1
    subst h3
    refine ⟨cur, hs, ht, ?_⟩
    exact Hp.set0 (r := row (.slice (some ⟨g, 0, none⟩) n c) e s n xs) (r' := blk g (.cells cur e)) h (Stp.refl _ _) hg (fun k hk => by
      have : k = g := hk
      subst this
      simp [row, Value.ownBlock])
theorem Cd.unrow {C : Ctx} {x : Code} {Q : Exit → Env → List Res → Prop} {σ : Env} {L : List Res} {g n c e s : Nat} {xs : List Value} (h : ∀ cs : Array Value, cs.size = c * s → cs.toList.take (n * s) = xs → Cd C x Q σ (blk g (.cells cs e) :: L)) : Cd C x Q σ (row (.slice (some ⟨g, 0, none⟩) n c) e s n xs :: L) := fun a w ha hs => by
  obtain ⟨cs, h1, h2, h3⟩ := Hp.unrow hs.heap
  exact h cs h1 h2 a w ha ⟨hs.size, h3⟩
theorem Ol.unrow {C : Ctx} {all : Array Oper} {l : List Oper} {K : Env → List Res → Prop} {σ : Env} {L : List Res} {g n c e s : Nat} {xs : List Value} (h : ∀ cs : Array Value, cs.size = c * s → cs.toList.take (n * s) = xs → Ol C all l K σ (blk g (.cells cs e) :: L)) : Ol C all l K σ (row (.slice (some ⟨g, 0, none⟩) n c) e s n xs :: L) := fun a w Q ha hs hq => by
  obtain ⟨cs, h1, h2, h3⟩ := Hp.unrow hs.heap
  exact h cs h1 h2 a w Q ha ⟨hs.size, h3⟩ hq
section
variable {P : Program} {w0 : World} {B : Nat} {σ : Env} {L : List Res} {d : Option Nat} {ty T : TypeId} {pos : String} {af : Array Edge} {gd : Option (Nat × Bool)} {x y z : Operand} {v : Value}
/-- An element of a slice that lies in a block that is known. -/
theorem ixo {k : IntKind} {ix n c e s b g off : Nat} (hT : SlT P T e s b) (hx : ev σ x = .slice (some ⟨g, off, none⟩) n c := by exact rfl) (hy : ev σ y = .int k (ix : Int) := by exact rfl) (h : ix < n := by omega) :
    Sd P w0 B ⟨d, .indexAddr T x y, ty, pos, af, gd⟩ σ L (.pointer (some ⟨g, off + ix * s, none⟩)) := by
  have := ixn (d := d) (ty := ty) (pos := pos) (af := af) (gd := gd) (P := P) (w0 := w0) (B := B) (L := L) hT Som.lit hx hy h
  have e1 : ap (some (⟨g, off, none⟩ : Addr)) (ix * s) = ⟨g, off + ix * s, none⟩ := by simp [ap, add_lit_]
  rwa [e1] at this
theorem ixo1 {k : IntKind} {ix n c e b g : Nat} (hT : SlT P T e 1 b) (hx : ev σ x = .slice (some ⟨g, 0, none⟩) n c := by exact rfl) (hy : ev σ y = .int k (ix : Int) := by exact rfl) (h : ix < n := by omega) :
    Sd P w0 B ⟨d, .indexAddr T x y, ty, pos, af, gd⟩ σ L (.pointer (some ⟨g, ix, none⟩)) := by
  have := ixo (d := d) (ty := ty) (pos := pos) (af := af) (gd := gd) (P := P) (w0 := w0) (B := B) (L := L) hT hx hy h
  rwa [Nat.mul_one, Nat.zero_add] at this
end
/-- What can be read of a slice, whoever is called, while L is held. -/
def RdS (w0 : World) (B : Nat) (L : List Res) (s : Nat) (A : Option Addr) (n : Nat) (xs : List Value) : Prop := ∀ M w, Hp w0 B (M ++ L) w → Reads w w.heap.size s A n xs
section
variable {w0 : World} {B s n c i : Nat} {L L' : List Res} {A : Option Addr} {xs : List Value}
theorem RdS.slc (h : Reads w0 B s A n xs) : RdS w0 B L s A n xs := fun M w hh => h.now hh
theorem RdS.row {e : TypeId} (hi : L[i]? = some (row (.slice A n c) e s n xs)) : RdS w0 B L s A n xs := fun M w hh => Reads.row hh hi
theorem RdS.keep (h : RdS w0 B L s A n xs) (hk : Keep L' L) : RdS w0 B L' s A n xs := fun M w hh => h M w (hk.hp hh)
theorem RdS.more (h : RdS w0 B L s A n xs) {r : Res} : RdS w0 B (r :: L) s A n xs := h.keep (.sub (.cons _ (List.Sublist.refl _)))
theorem RdS.nil : RdS w0 B L s A 0 [] := fun M w hh => ⟨by simp, fun h => by omega⟩
theorem RdS.blk {g k : Nat} {cs : Array Value} {e : TypeId} {fz : Nat × Nat} (hi : L[i]? = some (blk g (.cells cs e fz))) (hl : xs.length = n) (hx : ∀ j u, xs[j]? = some u → cs[k + j]? = some u) : RdS w0 B L 1 (some ⟨g, k, none⟩) n xs := fun M w hh => Reads.blk hh hi hl hx
theorem Rd.rds {k : Nat} {v : Value} (h : RdS w0 B L s A n xs) (hk : xs[k]? = some v) : Rd w0 B L (ap A k) v := fun M w hh => by
  have hr := h M w hh
  have hn : 0 < n := by
    rcases Nat.eq_zero_or_pos n with h0 | h0
    · have hl := hr.1
      rw [h0, Nat.zero_mul] at hl
      rw [List.eq_nil_of_length_eq_zero hl] at hk
      simp at hk
    · exact h0
  obtain ⟨ad, rfl, _, hc⟩ := hr.2 hn
  exact hc k v hk
theorem Som.rds (h : RdS w0 B L s A n xs) (hn : 0 < n) : Som w0 B L A := fun M w hh => by
  obtain ⟨ad, rfl, _⟩ := (h M w hh).2 hn; rfl
end
/-- A slice that is handed over: in a block, from some place on; or empty. -/
def PartL (e n : Nat) (xs : List Value) : Value → List Res → Prop := fun v L => (n = 0 ∧ xs = [] ∧ v = .slice none 0 0 ∧ L = []) ∨ ∃ g k c cs, v = .slice (some ⟨g, k, none⟩) n c ∧ L = [blk g (.cells cs e)] ∧ xs.length = n ∧ ∀ j u, xs[j]? = some u → cs[k + j]? = some u
theorem PartL.get {e n : Nat} {xs : List Value} {v : Value} {L : List Res} (h : PartL e n xs v L) : ∃ A c, v = .slice A n c ∧ ∀ w0 B, RdS w0 B L 1 A n xs := by
  rcases h with ⟨rfl, rfl, rfl, rfl⟩ | ⟨g, k, c, cs, rfl, rfl, hl, hx⟩
  · exact ⟨none, 0, rfl, fun _ _ => RdS.nil⟩
  · exact ⟨_, c, rfl, fun _ _ => RdS.blk (i := 0) rfl hl hx⟩
theorem slo {P : Program} {w0 : World} {B : Nat} {σ : Env} {L : List Res} {d : Option Nat} {ty T : TypeId} {pos : String} {af : Array Edge} {gd : Option (Nat × Bool)} {x y : Operand} {g off n c e s b l : Nat} {k : IntKind} (hT : SlT P T e s b) (hl : l ≤ n) (hc : l < c) (hx : ev σ x = .slice (some ⟨g, off, none⟩) n c := by exact rfl) (hy : ev σ y = .int k (l : Int) := by exact rfl) :
    Sd P w0 B ⟨d, .slice T x (some y) none none, ty, pos, af, gd⟩ σ L (.slice (some ⟨g, off + l * s, none⟩) (n - l) (c - l)) := by
  have := sll (d := d) (ty := ty) (pos := pos) (af := af) (gd := gd) (P := P) (w0 := w0) (B := B) (L := L) hT hl hx hy
  rw [if_neg (by omega)] at this
  simpa [add_lit_] using this
theorem made_ints (n : Nat) : (madeCells #[.int .i64 0] (n * 1)).toList.take (n * 1) = List.replicate n (.int .i64 0) := by
  rw [Nat.mul_one, List.take_of_length_le (by simp [madeCells])]
  apply List.ext_getElem?
  intro i
  by_cases h : i < n
  · simp [madeCells, h]
    rw [Nat.mod_one]; rfl
  · simp [madeCells, h]

/-! ### A walk in depth -/
abbrev Dst := Nat × List Nat
def dfs (ts : List Tm) : Nat → Nat → Dst → Dst
  | 0, _, st => st
  | n + 1, b, st => bif st.1.testBit b then st else
    let r := (toAt ts b).foldl (fun st t => dfs ts n t.toNat st) (withL st.1 [(b : Int)], st.2)
    (r.1, b :: r.2)
def orderF (ts : List Tm) : List Nat := bif closed ts then (dfs ts (ts.length + 1) 0 (0, [])).2 else []
def card (s n : Nat) : Nat := (upto s n).length
theorem card_le (s n : Nat) : card s n ≤ n := upto_len_le s n
theorem testBit_with1 (s b i : Nat) (hb : b < 1024) : (withL s [(b : Int)]).testBit i = (s.testBit i || decide (i = b)) := by
  rw [testBit_withL]
  by_cases h : i = b
  · subst h
    have : okN (i : Int) = true := by rw [okN_iff]; omega
    simp [this]
  · have h1 : ([(b : Int)].contains (i : Int)) = false := by simp; omega
    rw [h1]; simp [h]
theorem sub_with1 (s b : Nat) : Sub s (withL s [(b : Int)]) := fun i hi => by rw [testBit_withL, hi]; rfl
theorem card_with1 {s b n : Nat} (hb : b < n) (hn : n ≤ 1024) (h : s.testBit b = false) : card s n < card (withL s [(b : Int)]) n :=
  upto_len_lt (sub_with1 s b) h (by rw [testBit_with1 s b b (by omega)]; simp) n hb
theorem card_mono {s t n : Nat} (h : Sub s t) : card s n ≤ card t n := upto_len_mono h n
def outC (n : Nat) (acc : List Nat) : Array Value := (List.replicate (n - acc.length) (Value.int .i64 0) ++ intsN acc).toArray
theorem outC_size {n : Nat} {acc : List Nat} (h : acc.length ≤ n) : (outC n acc).size = n := by simp [outC, intsN]; omega
theorem outC_nil (n : Nat) {cs : Array Value} (h1 : cs.size = n * 1) (h2 : cs.toList.take (n * 1) = (madeCells #[.int .i64 0] (n * 1)).toList.take (n * 1)) : cs = outC n [] := by
  apply Array.ext'
  rw [made_ints, List.take_of_length_le (by simp; omega)] at h2
  rw [h2]; simp [outC, intsN]
theorem outC_cons {n b : Nat} {acc : List Nat} (h : acc.length < n) : (outC n acc).setIfInBounds (n - (acc.length + 1)) (.int .i64 (b : Int)) = outC n (b :: acc) := by
  apply Array.ext'
  unfold outC
  rw [Array.toList_setIfInBounds]
  have e : n - acc.length = (n - (acc.length + 1)) + 1 := by omega
  simp only [List.length_cons, e, List.replicate_succ', List.append_assoc]
  rw [List.set_append_right _ _ (by simp)]
  simp [intsN]
end Go.Proofs.YtcojedoejpcolaaGreat

/- Reaching and the order of blocks: plain laws. -/
namespace Go.Proofs.YtcojedoejpcolaaGreat
set_option linter.unusedVariables false
set_option maxRecDepth 10000
open Go Go.RowKit

/-- A way from a to b. -/
inductive Rc (ts : List Tm) (a : Nat) : Nat → Prop
  | refl : Rc ts a a
  | step {b c : Nat} : Rc ts a b → (c : Int) ∈ toAt ts b → Rc ts a c
theorem Rc.trans {ts : List Tm} {a b c : Nat} (h : Rc ts a b) (k : Rc ts b c) : Rc ts a c := by
  induction k with
  | refl => exact h
  | step _ h2 ih => exact .step ih h2
theorem Rc.one {ts : List Tm} {a b : Nat} (h : (b : Int) ∈ toAt ts a) : Rc ts a b := .step .refl h
theorem iterF_sub {ts : List Tm} {op s : Nat} (h : Sub s op) : ∀ k, Sub (iterF (stepS ts op) k s) op
  | 0 => h
  | k + 1 => step_sub _ _ _
theorem reach_fix {ts : List Tm} {op s : Nat} (h : Sub s op) (hop : Sm op) : stepS ts op (reachS ts op s) = reachS ts op s := by
  have key : ∀ k, (∃ j, j ≤ k ∧ stepS ts op (iterF (stepS ts op) j s) = iterF (stepS ts op) j s) ∨ k ≤ (listS (iterF (stepS ts op) k s)).length := by
    intro k
    induction k with
    | zero => exact .inr (Nat.zero_le _)
    | succ k ih =>
      rcases ih with ⟨j, hj, hf⟩ | ih
      · exact .inl ⟨j, by omega, hf⟩
      · by_cases he : stepS ts op (iterF (stepS ts op) k s) = iterF (stepS ts op) k s
        · exact .inl ⟨k, by omega, he⟩
        · right
          have hs := sub_step (ts := ts) (iterF_sub (ts := ts) h k)
          have := listS_lt hs ((step_sub ts op _).sm hop) (fun e => he e.symm)
          show k + 1 ≤ (listS (stepS ts op (iterF (stepS ts op) k s))).length
          omega
  unfold reachS
  rcases key 1025 with ⟨j, hj, hf⟩ | hl
  · rw [iter_fix hf 1025 hj]; exact hf
  · have := listS_len_le (iterF (stepS ts op) 1025 s)
    omega
theorem reach_sub_ {ts : List Tm} {op s : Nat} (h : Sub s op) : Sub s (reachS ts op s) := by
  unfold reachS
  have : ∀ k, Sub s (iterF (stepS ts op) k s) := by
    intro k
    induction k with
    | zero => exact Sub.refl s
    | succ k ih => exact ih.trans (sub_step (iterF_sub h k))
  exact this _
/-- What is reached: what a way goes to. -/
theorem mem_reach {ts : List Tm} {op s : Nat} (h : Sub s op) (hop : Sm op) (hall : ∀ b c : Nat, (c : Int) ∈ toAt ts b → op.testBit c = true) (i : Nat) : (reachS ts op s).testBit i = true ↔ ∃ a, s.testBit a = true ∧ Rc ts a i := by
  constructor
  · intro hi
    have : ∀ k i, (iterF (stepS ts op) k s).testBit i = true → ∃ a, s.testBit a = true ∧ Rc ts a i := by
      intro k
      induction k with
      | zero => intro i hi; exact ⟨i, hi, .refl⟩
      | succ k ih =>
        intro i hi
        have hi : (stepS ts op (iterF (stepS ts op) k s)).testBit i = true := hi
        rw [mem_step ((iterF_sub h k).sm hop)] at hi
        rcases hi.2 with h1 | ⟨_, b, hb, hc⟩
        · exact ih i h1
        · obtain ⟨a, ha, hr⟩ := ih b hb
          exact ⟨a, ha, .step hr hc⟩
    exact this _ i hi
  · rintro ⟨a, ha, hr⟩
    induction hr with
    | refl => exact reach_sub_ h a ha
    | @step b c _ hc ih =>
      have hsm : Sm (reachS ts op s) := Sub.sm (iterF_sub (ts := ts) h 1025) hop
      rw [← reach_fix h hop, mem_step hsm]
      have hopc := hall b c hc
      refine ⟨hopc, .inr ⟨?_, b, ih, hc⟩⟩
      rcases Nat.lt_or_ge c 1024 with hl | hl
      · exact hl
      · rw [hop c hl] at hopc; cases hopc
theorem toAt_lt {ts : List Tm} (hc : closed ts = true) {b : Nat} {t : Int} (h : t ∈ toAt ts b) : 0 ≤ t ∧ t < ts.length ∧ b < ts.length := by
  unfold toAt at h
  split at h
  · rename_i u hu
    obtain ⟨j, hj⟩ := List.mem_iff_getElem?.1 h
    have hm : (⟨(b : Int), (j : Int), t⟩ : Ed) ∈ edges ts := mem_edges.2 ⟨b, j, u, hu, hj, rfl, rfl⟩
    unfold closed at hc
    simp only [Bool.and_eq_true, decide_eq_true_eq, List.all_eq_true] at hc
    have := hc.1.1 _ hm
    exact ⟨this.1, this.2, (List.getElem?_eq_some_iff.1 hu).1⟩
  · cases h
theorem closed_le {ts : List Tm} (hc : closed ts = true) : 0 < ts.length ∧ ts.length ≤ 200 := by
  unfold closed at hc
  simp only [Bool.and_eq_true, decide_eq_true_eq] at hc
  exact ⟨hc.1.2, hc.2⟩
/-- What Reached tells, no block shut. -/
theorem mem_reachedF {ts : List Tm} {fr : List Int} (hc : closed ts = true) (i : Nat) : i ∈ reachedF ts fr [] ↔ ∃ a : Nat, a < ts.length ∧ (a : Int) ∈ fr ∧ Rc ts a i := by
  have hl := (closed_le hc).2
  unfold reachedF
  rw [hc, cond_true, mem_listS]
  have hop : lessL (allS ts.length) [] = allS ts.length := rfl
  rw [hop]
  have hsub : Sub (allS ts.length &&& ofL fr) (allS ts.length) := fun i hi => by
    rw [Nat.testBit_and] at hi
    simp only [Bool.and_eq_true] at hi
    exact hi.1
  have hall : ∀ b c : Nat, (c : Int) ∈ toAt ts b → (allS ts.length).testBit c = true := fun b c h => by
    rw [testBit_allS _ _ (by omega)]
    have := toAt_lt hc h
    simp; omega
  rw [mem_reach hsub (allS_sm (by omega)) hall]
  constructor
  · rintro ⟨_, a, ha, hr⟩
    rw [Nat.testBit_and, testBit_allS _ _ (by omega), testBit_ofL] at ha
    simp only [Bool.and_eq_true, decide_eq_true_eq, List.contains_iff_mem] at ha
    exact ⟨a, ha.1, ha.2.2, hr⟩
  · rintro ⟨a, h1, h2, hr⟩
    refine ⟨?_, a, ?_, hr⟩
    · cases hr with
      | refl => omega
      | step _ h => have := toAt_lt hc h; omega
    · rw [Nat.testBit_and, testBit_allS _ _ (by omega), testBit_ofL]
      have : okN (a : Int) = true := by rw [okN_iff]; omega
      simp [this, h1, h2]
theorem upto_nodup (s n : Nat) : (upto s n).Nodup := by unfold upto; exact List.Pairwise.filter _ List.nodup_range
theorem reachedF_nodup (ts : List Tm) (fr nt : List Int) : (reachedF ts fr nt).Nodup := by
  unfold reachedF
  cases closed ts
  · exact List.nodup_nil
  · rw [cond_true]; unfold listS; exact upto_nodup _ _

/-! ### The walk in depth -/
def After (l : List Nat) (x y : Nat) : Prop := ∃ p q, l = p ++ x :: q ∧ y ∈ q
theorem After.more {l : List Nat} {x y : Nat} (h : After l x y) (r : List Nat) : After (r ++ l) x y := by
  obtain ⟨p, q, rfl, hy⟩ := h
  exact ⟨r ++ p, q, by simp, hy⟩
structure DPre (ts : List Tm) (b : Nat) (st : Dst) : Prop where
  sm : Sm st.1
  acc : ∀ y ∈ st.2, st.1.testBit y = true
  nd : st.2.Nodup
  gray : ∀ y, st.1.testBit y = true → y ∈ st.2 ∨ Rc ts y b
structure DPost (ts : List Tm) (b : Nat) (st : Dst) (r : Dst) (nl : List Nat) : Prop where
  eq : r.2 = nl ++ st.2
  seen : ∀ i, r.1.testBit i = true ↔ st.1.testBit i = true ∨ i ∈ nl
  sm : Sm r.1
  nd : (nl ++ st.2).Nodup
  new : ∀ x ∈ nl, Rc ts b x ∧ st.1.testBit x = false ∧ x < ts.length
  next : ∀ x ∈ nl, ∀ y : Nat, (y : Int) ∈ toAt ts x → r.1.testBit y = true ∧ (After (nl ++ st.2) x y ∨ Rc ts y x)
theorem fold_spec {ts : List Tm} (hc : closed ts = true) {fuel b : Nat} (ih : ∀ (b : Nat) (st : Dst), b < ts.length → ts.length - card st.1 ts.length < fuel → DPre ts b st → ∃ new, DPost ts b st (dfs ts fuel b st) new ∧ (dfs ts fuel b st).1.testBit b = true) :
    ∀ (l : List Int) (st : Dst), (∀ t ∈ l, t ∈ toAt ts b) → ts.length - card st.1 ts.length < fuel → DPre ts b st → ∃ new, DPost ts b st (l.foldl (fun st t => dfs ts fuel t.toNat st) st) new ∧ ∀ t : Nat, (t : Int) ∈ l → (l.foldl (fun st t => dfs ts fuel t.toNat st) st).1.testBit t = true
  | [], st, _, _, h => ⟨[], ⟨rfl, fun i => by simp, h.sm, h.nd, fun x h => (by cases h), fun x h => (by cases h)⟩, fun t h => (by cases h)⟩
  | t :: l, st, hl, hf, h => by
    have htm := hl t (by simp)
    have htl := toAt_lt hc htm
    have hcast : ((t.toNat : Nat) : Int) = t := by omega
    obtain ⟨n1, p1, q1⟩ := ih t.toNat st (by omega) hf ⟨h.sm, h.acc, h.nd, fun y hy => (h.gray y hy).imp id fun hr => .step hr (by rw [hcast]; exact htm)⟩
    obtain ⟨st1, hst1⟩ : ∃ st1, st1 = dfs ts fuel t.toNat st := ⟨_, rfl⟩
    rw [← hst1] at p1 q1
    have hmono : card st.1 ts.length ≤ card st1.1 ts.length := card_mono fun i hi => (p1.seen i).2 (.inl hi)
    obtain ⟨n2, p2, q2⟩ := fold_spec hc ih l st1 (fun t ht => hl t (by simp [ht])) (by omega)
      ⟨p1.sm, fun y hy => by
        rw [p1.eq, List.mem_append] at hy
        exact (p1.seen y).2 (hy.elim .inr fun h2 => .inl (h.acc y h2)), by rw [p1.eq]; exact p1.nd, fun y hy => by
        rw [p1.eq, List.mem_append]
        rcases (p1.seen y).1 hy with h2 | h2
        · rcases h.gray y h2 with h3 | h3
          · exact .inl (.inr h3)
          · exact .inr h3
        · exact .inl (.inl h2)⟩
    have e : (t :: l).foldl (fun st t => dfs ts fuel t.toNat st) st = l.foldl (fun st t => dfs ts fuel t.toNat st) st1 := by rw [hst1]; rfl
    rw [e]
    have eq2 : n2 ++ st1.2 = n2 ++ n1 ++ st.2 := by rw [p1.eq]; simp
    refine ⟨n2 ++ n1, ⟨by rw [p2.eq, eq2], fun i => by rw [p2.seen, p1.seen, List.mem_append]; exact ⟨fun h => by rcases h with (h | h) | h <;> simp [h], fun h => by rcases h with h | h | h <;> simp [h]⟩, p2.sm, by rw [← eq2]; exact p2.nd, fun x hx => ?_, fun x hx y hy => ?_⟩, fun u hu => ?_⟩
    · rcases List.mem_append.1 hx with hx | hx
      · obtain ⟨h1, h2, h3⟩ := p2.new x hx
        refine ⟨h1, ?_, h3⟩
        cases h4 : st.1.testBit x with
        | false => rfl
        | true => rw [(p1.seen x).2 (.inl h4)] at h2; cases h2
      · obtain ⟨h1, h2, h3⟩ := p1.new x hx
        exact ⟨(Rc.one (by rw [hcast]; exact htm)).trans h1, h2, h3⟩
    · rw [← eq2]
      rcases List.mem_append.1 hx with hx | hx
      · exact p2.next x hx y hy
      · obtain ⟨h1, h2⟩ := p1.next x hx y hy
        refine ⟨(p2.seen y).2 (.inl h1), h2.imp (fun h3 => ?_) id⟩
        rw [p1.eq]; exact h3.more n2
    · rcases List.mem_cons.1 hu with hu | hu
      · subst hu
        exact (p2.seen u).2 (.inl (by simpa using q1))
      · exact q2 u hu
theorem dfs_spec {ts : List Tm} (hc : closed ts = true) : ∀ (fuel b : Nat) (st : Dst), b < ts.length → ts.length - card st.1 ts.length < fuel → DPre ts b st → ∃ new, DPost ts b st (dfs ts fuel b st) new ∧ (dfs ts fuel b st).1.testBit b = true := by
  intro fuel
  induction fuel with
  | zero => intro b st _ h; omega
  | succ fuel ih =>
    intro b st hb hf h
    have hl := (closed_le hc).2
    cases hs : st.1.testBit b with
    | true =>
      have e : dfs ts (fuel + 1) b st = st := by simp only [dfs, hs, cond_true]
      rw [e]
      exact ⟨[], ⟨rfl, fun i => by simp, h.sm, h.nd, fun x h => (by cases h), fun x h => (by cases h)⟩, hs⟩
    | false =>
      obtain ⟨s1, hs1⟩ : ∃ s1, s1 = withL st.1 [(b : Int)] := ⟨_, rfl⟩
      have hbit : ∀ i, s1.testBit i = true ↔ st.1.testBit i = true ∨ i = b := fun i => by rw [hs1, testBit_with1 _ _ _ (by omega)]; simp
      have hgrow : card st.1 ts.length < card s1 ts.length := by rw [hs1]; exact card_with1 hb (by omega) hs
      have hcl := card_le s1 ts.length
      obtain ⟨nw, p, q⟩ := fold_spec hc (b := b) ih (toAt ts b) (s1, st.2) (fun t h => h) (by show ts.length - card s1 ts.length < fuel; omega)
        ⟨by rw [hs1]; exact withL_sm h.sm, fun y hy => (hbit y).2 (.inl (h.acc y hy)), h.nd, fun y hy => by
          rcases (hbit y).1 hy with h1 | rfl
          · exact h.gray y h1
          · exact .inr .refl⟩
      obtain ⟨r, hr⟩ : ∃ r, r = (toAt ts b).foldl (fun st t => dfs ts fuel t.toNat st) (s1, st.2) := ⟨_, rfl⟩
      have e : dfs ts (fuel + 1) b st = (r.1, b :: r.2) := by simp only [dfs, hs, cond_false, hr, hs1]
      rw [← hr] at p q
      rw [e]
      have hbs : r.1.testBit b = true := (p.seen b).2 (.inl ((hbit b).2 (.inr rfl)))
      have hbn : b ∉ nw := fun hm => by
        have := (p.new b hm).2.1
        rw [(hbit b).2 (.inr rfl)] at this; cases this
      have hba : b ∉ st.2 := fun hm => by rw [h.acc b hm] at hs; cases hs
      refine ⟨b :: nw, ⟨by rw [p.eq]; rfl, fun i => by
        rw [p.seen, hbit, List.mem_cons]
        exact or_assoc, p.sm, by
        rw [List.cons_append, List.nodup_cons, List.mem_append]
        exact ⟨fun h => h.elim hbn hba, p.nd⟩, fun x hx => ?_, fun x hx y hy => ?_⟩, hbs⟩
      · rcases List.mem_cons.1 hx with rfl | hx
        · exact ⟨.refl, hs, hb⟩
        · obtain ⟨h1, h2, h3⟩ := p.new x hx
          refine ⟨h1, ?_, h3⟩
          cases h4 : st.1.testBit x with
          | false => rfl
          | true => rw [(hbit x).2 (.inl h4)] at h2; cases h2
      · rcases List.mem_cons.1 hx with rfl | hx
        · have hy1 := q y hy
          refine ⟨hy1, ?_⟩
          rcases (p.seen y).1 hy1 with h1 | h1
          · rcases (hbit y).1 h1 with h2 | rfl
            · rcases h.gray y h2 with h3 | h3
              · exact .inl ⟨[], nw ++ st.2, rfl, List.mem_append_right _ h3⟩
              · exact .inr h3
            · exact .inr .refl
          · exact .inl ⟨[], nw ++ st.2, rfl, List.mem_append_left _ h1⟩
        · obtain ⟨h1, h2⟩ := p.next x hx y hy
          exact ⟨h1, h2.imp (fun h3 => h3.more [b]) id⟩

theorem nodup_le : ∀ (l m : List Nat), l.Nodup → (∀ x ∈ l, x ∈ m) → l.length ≤ m.length
  | [], m, _, _ => Nat.zero_le _
  | x :: l, m, hn, h => by
    rw [List.nodup_cons] at hn
    have hx := h x (by simp)
    have := nodup_le l (m.erase x) hn.2 fun y hy => (List.mem_erase_of_ne (fun e => hn.1 (by subst e; exact hy))).2 (h y (by simp [hy]))
    rw [List.length_erase_of_mem hx] at this
    have : 0 < m.length := List.length_pos_of_mem hx
    simp only [List.length_cons]
    omega
theorem order_spec {ts : List Tm} (hc : closed ts = true) : ∃ r nw, r = dfs ts (ts.length + 1) 0 (0, []) ∧ orderF ts = nw ∧ DPost ts 0 (0, []) r nw ∧ r.1.testBit 0 = true := by
  obtain ⟨nw, p, q⟩ := dfs_spec hc (ts.length + 1) 0 (0, []) (closed_le hc).1 (by omega) ⟨fun n _ => by simp, fun y h => (by cases h), List.nodup_nil, fun y h => by simp at h⟩
  refine ⟨_, nw, rfl, ?_, p, q⟩
  unfold orderF
  rw [hc, cond_true, p.eq]
  simp
theorem order_nodup {ts : List Tm} (hc : closed ts = true) : (orderF ts).Nodup := by
  obtain ⟨r, nw, _, e, p, _⟩ := order_spec hc
  rw [e]; simpa using p.nd
theorem order_edge {ts : List Tm} (hc : closed ts = true) {a y : Nat} (ha : a ∈ orderF ts) (hy : (y : Int) ∈ toAt ts a) : y ∈ orderF ts ∧ (After (orderF ts) a y ∨ Rc ts y a) := by
  obtain ⟨r, nw, _, e, p, _⟩ := order_spec hc
  rw [e] at ha ⊢
  obtain ⟨h1, h2⟩ := p.next a ha y hy
  exact ⟨by simpa using (p.seen y).1 h1, by simpa using h2⟩
theorem order_mem {ts : List Tm} (hc : closed ts = true) (i : Nat) : i ∈ orderF ts ↔ Rc ts 0 i := by
  obtain ⟨r, nw, _, e, p, q⟩ := order_spec hc
  constructor
  · intro h
    rw [e] at h
    exact (p.new i h).1
  · intro h
    induction h with
    | refl => rw [e]; simpa using (p.seen 0).1 q
    | step _ h2 ih => exact (order_edge hc ih h2).1
theorem order_reached {ts : List Tm} (hc : closed ts = true) (i : Nat) : i ∈ orderF ts ↔ i ∈ reachedF ts [0] [] := by
  rw [order_mem hc, mem_reachedF hc]
  constructor
  · intro h
    exact ⟨0, (closed_le hc).1, by simp, h⟩
  · rintro ⟨a, _, ha, hr⟩
    have : a = 0 := by simpa using ha
    subst this; exact hr
theorem order_len {ts : List Tm} (hc : closed ts = true) : (orderF ts).length = (reachedF ts [0] []).length :=
  Nat.le_antisymm (nodup_le _ _ (order_nodup hc) fun x hx => (order_reached hc x).1 hx) (nodup_le _ _ (reachedF_nodup _ _ _) fun x hx => (order_reached hc x).2 hx)
theorem dfs_head {ts : List Tm} {k b : Nat} {st : Dst} (h : st.1.testBit b = false) : ∃ r : Dst, dfs ts (k + 1) b st = (r.1, b :: r.2) :=
  ⟨(toAt ts b).foldl (fun st t => dfs ts k t.toNat st) (withL st.1 [(b : Int)], st.2), by simp only [dfs, h, cond_false]⟩
theorem order_head {ts : List Tm} (hc : closed ts = true) : ∃ t, orderF ts = 0 :: t := by
  obtain ⟨r, hr⟩ := dfs_head (ts := ts) (k := ts.length) (b := 0) (st := (0, [])) (by simp)
  refine ⟨r.2, ?_⟩
  unfold orderF
  rw [hc, cond_true, hr]
/-! places -/
def placeI (l : List Int) (n : Int) : Int := match l.findIdx? (fun x => decide (x = n)) with
  | some i => (i : Int)
  | none => -1
end Go.Proofs.YtcojedoejpcolaaGreat

/- Plain laws behind ir.Right: edges that go to blocks, a search that reaches what can be reached. -/
namespace Go.Proofs.YtcojedoejpcolaaGreat
set_option linter.unusedVariables false
open Go Go.RowKit

/-- All edges go to blocks, none to the first. -/
def okEs (ts : List Tm) : Bool := ts.all fun t => (toL t).all fun n => decide (1 ≤ n) && decide (n < (ts.length : Int))
theorem okEs_at {ts : List Tm} (h : okEs ts = true) {a : Nat} {n : Int} (hn : n ∈ toAt ts a) : 1 ≤ n ∧ n < ts.length := by
  unfold toAt at hn
  cases ht : ts[a]? with
  | none => rw [ht] at hn; cases hn
  | some t =>
    rw [ht] at hn
    unfold okEs at h
    rw [List.all_eq_true] at h
    have h1 := h t (List.mem_of_getElem? ht)
    rw [List.all_eq_true] at h1
    have h2 := h1 n hn
    simpa using h2
theorem okEs_closed {ts : List Tm} (h : okEs ts = true) (h0 : 0 < ts.length) (h2 : ts.length ≤ 200) : closed ts = true := by
  unfold closed
  rw [Bool.and_eq_true, Bool.and_eq_true, decide_eq_true_iff, decide_eq_true_iff]
  refine ⟨⟨?_, h0⟩, h2⟩
  rw [List.all_eq_true]
  intro e he
  obtain ⟨k, j, t, hk, hj, h3, h4⟩ := mem_edges.1 he
  have := okEs_at h (a := k) (n := e.to) (by rw [toAt_some hk]; exact List.mem_of_getElem? hj)
  simp; omega
def setB (S : Nat → Bool) (x : Nat) : Nat → Bool := fun i => if i = x then true else S i
def cntB (n : Nat) (S : Nat → Bool) : Nat := ((List.range n).filter S).length
theorem cntB_le (n : Nat) (S : Nat → Bool) : cntB n S ≤ n := by
  unfold cntB
  have := List.length_filter_le S (List.range n)
  simpa using this
theorem cntB_congr {n : Nat} {S T : Nat → Bool} (h : ∀ i, i < n → S i = T i) : cntB n S = cntB n T := by
  unfold cntB
  rw [List.filter_congr]
  intro i hi
  exact h i (by simpa using hi)
theorem cntB_set {S : Nat → Bool} {x : Nat} : ∀ {n : Nat}, x < n → S x = false → cntB n (setB S x) = cntB n S + 1
  | 0, h, _ => by omega
  | n + 1, h, h0 => by
    have hs : ∀ (T : Nat → Bool), cntB (n + 1) T = cntB n T + (if T n then 1 else 0) := fun T => by
      unfold cntB
      rw [List.range_succ, List.filter_append, List.length_append]
      cases hT : T n <;> simp [hT]
    rw [hs, hs]
    by_cases e : x = n
    · subst e
      have h1 : cntB x (setB S x) = cntB x S := cntB_congr fun i hi => by unfold setB; rw [if_neg (by omega)]
      have h2 : setB S x x = true := by unfold setB; rw [if_pos rfl]
      rw [h1, h2, h0]; rfl
    · have h1 := cntB_set (S := S) (x := x) (n := n) (by omega) h0
      have h2 : setB S x n = S n := by unfold setB; rw [if_neg (fun e2 => e e2.symm)]
      rw [h1, h2]; omega
/-- A search by a queue: what has been seen, what is to do. -/
structure Bfs (ts : List Tm) (S : Nat → Bool) (todo : List Nat) : Prop where
  s : ∀ i, S i = true → i < ts.length ∧ Rc ts 0 i
  t : ∀ i ∈ todo, i < ts.length ∧ Rc ts 0 i
  z : S 0 = true ∨ 0 ∈ todo
  e : ∀ a, S a = true → ∀ b : Nat, (b : Int) ∈ toAt ts a → S b = true ∨ b ∈ todo
theorem Bfs.start {ts : List Tm} (h : 0 < ts.length) : Bfs ts (fun _ => false) [0] := by
  refine ⟨fun i h => (by cases h), fun i hi => ?_, .inr (by simp), fun a h => (by cases h)⟩
  have : i = 0 := by simpa using hi
  subst this
  exact ⟨h, .refl⟩
theorem Bfs.pop {ts : List Tm} {S : Nat → Bool} {x : Nat} {l : List Nat} (h : Bfs ts S (x :: l)) (hx : S x = true) : Bfs ts S l := by
  refine ⟨h.s, fun i hi => h.t i (by simp [hi]), ?_, fun a ha b hb => ?_⟩
  · rcases h.z with h1 | h1
    · exact .inl h1
    · rcases List.mem_cons.1 h1 with rfl | h1
      · exact .inl hx
      · exact .inr h1
  · rcases h.e a ha b hb with h1 | h1
    · exact .inl h1
    · rcases List.mem_cons.1 h1 with rfl | h1
      · exact .inl hx
      · exact .inr h1
theorem Bfs.see {ts : List Tm} {S : Nat → Bool} {x : Nat} {l m : List Nat} (h : Bfs ts S (x :: l)) (hm : ∀ b : Nat, b ∈ m ↔ (b : Int) ∈ toAt ts x) (hlt : ∀ b ∈ m, b < ts.length) : Bfs ts (setB S x) (l ++ m) := by
  obtain ⟨hxl, hxr⟩ := h.t x (by simp)
  have hset : ∀ i, setB S x i = true ↔ i = x ∨ S i = true := fun i => by
    unfold setB
    by_cases e : i = x <;> simp [e]
  refine ⟨fun i hi => ?_, fun i hi => ?_, ?_, fun a ha b hb => ?_⟩
  · rcases (hset i).1 hi with rfl | h1
    · exact ⟨hxl, hxr⟩
    · exact h.s i h1
  · rcases List.mem_append.1 hi with h1 | h1
    · exact h.t i (by simp [h1])
    · exact ⟨hlt i h1, .step hxr ((hm i).1 h1)⟩
  · rcases h.z with h1 | h1
    · exact .inl ((hset 0).2 (.inr h1))
    · rcases List.mem_cons.1 h1 with h1 | h1
      · exact .inl ((hset 0).2 (.inl h1))
      · exact .inr (by simp [h1])
  · rcases (hset a).1 ha with rfl | h1
    · exact .inr (by simp [(hm b).2 hb])
    · rcases h.e a h1 b hb with h2 | h2
      · exact .inl ((hset b).2 (.inr h2))
      · rcases List.mem_cons.1 h2 with h2 | h2
        · exact .inl ((hset b).2 (.inl h2))
        · exact .inr (by simp [h2])
theorem Bfs.fin {ts : List Tm} {S : Nat → Bool} (h : Bfs ts S []) (hc : closed ts = true) : cntB ts.length S = (orderF ts).length := by
  have hS : ∀ i, S i = true ↔ i ∈ orderF ts := fun i => by
    rw [order_mem hc]
    constructor
    · exact fun hi => (h.s i hi).2
    · intro hi
      induction hi with
      | refl => rcases h.z with h1 | h1; exact h1; cases h1
      | step _ hb ih =>
        rcases h.e _ ih _ hb with h1 | h1
        · exact h1
        · cases h1
  apply Nat.le_antisymm
  · refine nodup_le _ _ (List.Pairwise.filter _ List.nodup_range) fun x hx => ?_
    rw [List.mem_filter] at hx
    exact (hS x).1 hx.2
  · refine nodup_le _ _ (order_nodup hc) fun x hx => ?_
    rw [List.mem_filter]
    have := (hS x).2 hx
    exact ⟨by simpa using (h.s x this).1, this⟩
def boolsL (n : Nat) (S : Nat → Bool) : List Value := (List.range n).map fun i => .bool (S i)
theorem boolsL_len (n : Nat) (S : Nat → Bool) : (boolsL n S).length = n := by simp [boolsL]
theorem boolsL_get {n i : Nat} {S : Nat → Bool} (h : i < n) : (boolsL n S)[i]? = some (.bool (S i)) := by simp [boolsL, h]
theorem boolsL_set {n x : Nat} {S : Nat → Bool} : (boolsL n S).set x (.bool true) = boolsL n (setB S x) := by
  apply List.ext_getElem?
  intro i
  rw [List.getElem?_set]
  unfold setB
  by_cases hi : i < n
  · by_cases e : x = i
    · subst e; simp [boolsL, hi]
    · rw [if_neg e, boolsL_get hi, boolsL_get hi, if_neg (fun e2 => e e2.symm)]
  · have h1 : (boolsL n S)[i]? = none := List.getElem?_eq_none (by rw [boolsL_len]; omega)
    have h2 : (boolsL n fun j => if j = x then true else S j)[i]? = none := List.getElem?_eq_none (by rw [boolsL_len]; omega)
    rw [h1, h2]
    split
    · split
      · rename_i h3; rw [boolsL_len] at h3; omega
      · rfl
    · rfl
theorem made_bools (n : Nat) : (madeCells #[.bool false] (n * 1)).toList.take (n * 1) = boolsL n fun _ => false := by
  rw [Nat.mul_one, List.take_of_length_le (by simp [madeCells])]
  apply List.ext_getElem?
  intro i
  by_cases h : i < n
  · simp [madeCells, boolsL, h]
    rw [Nat.mod_one]; rfl
  · simp [madeCells, boolsL, h]
/-- Where an end may go, as naturals. -/
def toN (t : Tm) : List Nat := (toL t).map Int.toNat
theorem toN_ints {t : Tm} (h : ∀ n ∈ toL t, 0 ≤ n) : ints (toL t) = (toN t).map fun n : Nat => .int .i64 (n : Int) := by
  unfold ints toN
  rw [List.map_map]
  apply List.map_congr_left
  intro n hn
  have := h n hn
  simp; omega
theorem mem_toN {t : Tm} (h : ∀ n ∈ toL t, 0 ≤ n) (b : Nat) : b ∈ toN t ↔ (b : Int) ∈ toL t := by
  unfold toN
  rw [List.mem_map]
  constructor
  · rintro ⟨n, hn, rfl⟩
    have := h n hn
    rw [show ((n.toNat : Nat) : Int) = n by omega]; exact hn
  · exact fun hb => ⟨_, hb, by simp⟩
end Go.Proofs.YtcojedoejpcolaaGreat

