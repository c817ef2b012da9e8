/- Part 2 of the proof of LiveLeastC: the texts Types, Bits, Tz, Bits2, Open, Model, Ir, IrM, Misc, Ins, IrS, Reach, Dfs, FlowLaw, IrL, one behind the other. -/
import Derived.Test.YtbcnejobnmljlaaDoorProg
import Derived.KernelRfl
import Derived.Test.YtbcnejobnmljlaaDoorRows
import Derived.WalkKit
import Derived.ProofKit
import Derived.OpenShut
import Derived.ChangeOld
import Derived.Below
import Derived.SizedLaws
import Derived.LaidMore
import Derived.Stop.Joined
import Derived.LaidHandle
import Derived.Lib.LaidTab
import Derived.Test.YtbcnejobnmljlaaDoorLiveLeastCM1
/- Facts on types, and that functions are entered; by gen.py. -/
namespace Go.Proofs.YtbcnejobnmljlaaDoor
set_option linter.unusedVariables false
open Go
set_option maxRecDepth 100000
theorem sz_L_L_L_int : (Tryd.prog.info? 52).map (·.size) = some 1 := by kernel_rfl
theorem zr_L_L_L_int : ZrT Tryd.prog 52 (.slice none 0 0) := .mk (by kernel_rfl)
theorem one_L_L_L_int : OneT Tryd.prog 52 := .mk (by kernel_rfl)
theorem sl_L_L_L_int : SlT Tryd.prog 52 51 1 24 := ⟨by kernel_rfl, by kernel_rfl⟩
theorem sz_L_L_int : (Tryd.prog.info? 51).map (·.size) = some 1 := by kernel_rfl
theorem zr_L_L_int : ZrT Tryd.prog 51 (.slice none 0 0) := .mk (by kernel_rfl)
theorem one_L_L_int : OneT Tryd.prog 51 := .mk (by kernel_rfl)
theorem sl_L_L_int : SlT Tryd.prog 51 22 1 24 := ⟨by kernel_rfl, by kernel_rfl⟩
theorem sz_L_api_Block : (Tryd.prog.info? 36).map (·.size) = some 1 := by kernel_rfl
theorem zr_L_api_Block : ZrT Tryd.prog 36 (.slice none 0 0) := .mk (by kernel_rfl)
theorem one_L_api_Block : OneT Tryd.prog 36 := .mk (by kernel_rfl)
theorem sl_L_api_Block : SlT Tryd.prog 36 66 5 56 := ⟨by kernel_rfl, by kernel_rfl⟩
theorem sz_L_api_Edge : (Tryd.prog.info? 42).map (·.size) = some 1 := by kernel_rfl
theorem zr_L_api_Edge : ZrT Tryd.prog 42 (.slice none 0 0) := .mk (by kernel_rfl)
theorem one_L_api_Edge : OneT Tryd.prog 42 := .mk (by kernel_rfl)
theorem sl_L_api_Edge : SlT Tryd.prog 42 47 3 24 := ⟨by kernel_rfl, by kernel_rfl⟩
theorem sz_L_api_Ins : (Tryd.prog.info? 60).map (·.size) = some 1 := by kernel_rfl
theorem zr_L_api_Ins : ZrT Tryd.prog 60 (.slice none 0 0) := .mk (by kernel_rfl)
theorem one_L_api_Ins : OneT Tryd.prog 60 := .mk (by kernel_rfl)
theorem sl_L_api_Ins : SlT Tryd.prog 60 72 8 80 := ⟨by kernel_rfl, by kernel_rfl⟩
theorem sz_L_bits_Set : (Tryd.prog.info? 100).map (·.size) = some 1 := by kernel_rfl
theorem zr_L_bits_Set : ZrT Tryd.prog 100 (.slice none 0 0) := .mk (by kernel_rfl)
theorem one_L_bits_Set : OneT Tryd.prog 100 := .mk (by kernel_rfl)
theorem sl_L_bits_Set : SlT Tryd.prog 100 27 16 128 := ⟨by kernel_rfl, by kernel_rfl⟩
theorem sz_L_bool : (Tryd.prog.info? 126).map (·.size) = some 1 := by kernel_rfl
theorem zr_L_bool : ZrT Tryd.prog 126 (.slice none 0 0) := .mk (by kernel_rfl)
theorem one_L_bool : OneT Tryd.prog 126 := .mk (by kernel_rfl)
theorem sl_L_bool : SlT Tryd.prog 126 4 1 1 := ⟨by kernel_rfl, by kernel_rfl⟩
theorem sz_L_int : (Tryd.prog.info? 22).map (·.size) = some 1 := by kernel_rfl
theorem zr_L_int : ZrT Tryd.prog 22 (.slice none 0 0) := .mk (by kernel_rfl)
theorem one_L_int : OneT Tryd.prog 22 := .mk (by kernel_rfl)
theorem sl_L_int : SlT Tryd.prog 22 3 1 8 := ⟨by kernel_rfl, by kernel_rfl⟩
theorem sz_L_ir_set : (Tryd.prog.info? 127).map (·.size) = some 1 := by kernel_rfl
theorem zr_L_ir_set : ZrT Tryd.prog 127 (.slice none 0 0) := .mk (by kernel_rfl)
theorem one_L_ir_set : OneT Tryd.prog 127 := .mk (by kernel_rfl)
theorem sl_L_ir_set : SlT Tryd.prog 127 124 201 201 := ⟨by kernel_rfl, by kernel_rfl⟩
theorem sz_P_ir_set : (Tryd.prog.info? 152).map (·.size) = some 1 := by kernel_rfl
theorem zr_P_ir_set : ZrT Tryd.prog 152 (.pointer none) := .mk (by kernel_rfl)
theorem one_P_ir_set : OneT Tryd.prog 152 := .mk (by kernel_rfl)
theorem sz_api_Errno : (Tryd.prog.info? 55).map (·.size) = some 1 := by kernel_rfl
theorem zr_api_Errno : ZrT Tryd.prog 55 (.int .i64 0) := .mk (by kernel_rfl)
theorem one_api_Errno : OneT Tryd.prog 55 := .mk (by kernel_rfl)
theorem in_api_Errno : InT Tryd.prog 55 .i64 := .mk (by kernel_rfl)
theorem pr_api_Errno : primT Tryd.prog 55 (.int .i64) := ⟨in_api_Errno, rfl, sz_api_Errno⟩
theorem sz_api_Op : (Tryd.prog.info? 70).map (·.size) = some 1 := by kernel_rfl
theorem zr_api_Op : ZrT Tryd.prog 70 (.int .i64 0) := .mk (by kernel_rfl)
theorem one_api_Op : OneT Tryd.prog 70 := .mk (by kernel_rfl)
theorem in_api_Op : InT Tryd.prog 70 .i64 := .mk (by kernel_rfl)
theorem pr_api_Op : primT Tryd.prog 70 (.int .i64) := ⟨in_api_Op, rfl, sz_api_Op⟩
theorem sz_api_TermKind : (Tryd.prog.info? 61).map (·.size) = some 1 := by kernel_rfl
theorem zr_api_TermKind : ZrT Tryd.prog 61 (.int .i64 0) := .mk (by kernel_rfl)
theorem one_api_TermKind : OneT Tryd.prog 61 := .mk (by kernel_rfl)
theorem in_api_TermKind : InT Tryd.prog 61 .i64 := .mk (by kernel_rfl)
theorem pr_api_TermKind : primT Tryd.prog 61 (.int .i64) := ⟨in_api_TermKind, rfl, sz_api_TermKind⟩
theorem sz_bool : (Tryd.prog.info? 4).map (·.size) = some 1 := by kernel_rfl
theorem zr_bool : ZrT Tryd.prog 4 (.bool false) := .mk (by kernel_rfl)
theorem one_bool : OneT Tryd.prog 4 := .mk (by kernel_rfl)
theorem bo_bool : Tryd.prog.underlying 4 = some .bool := by kernel_rfl
theorem pr_bool : primT Tryd.prog 4 .bool := ⟨bo_bool, rfl, sz_bool⟩
theorem sz_func_api_Block_bool : (Tryd.prog.info? 123).map (·.size) = some 1 := by kernel_rfl
theorem zr_func_api_Block_bool : ZrT Tryd.prog 123 .nilFunc := .mk (by kernel_rfl)
theorem one_func_api_Block_bool : OneT Tryd.prog 123 := .mk (by kernel_rfl)
theorem sz_func_api_Edge_bool : (Tryd.prog.info? 92).map (·.size) = some 1 := by kernel_rfl
theorem zr_func_api_Edge_bool : ZrT Tryd.prog 92 .nilFunc := .mk (by kernel_rfl)
theorem one_func_api_Edge_bool : OneT Tryd.prog 92 := .mk (by kernel_rfl)
theorem sz_func_api_Ins_bool : (Tryd.prog.info? 111).map (·.size) = some 1 := by kernel_rfl
theorem zr_func_api_Ins_bool : ZrT Tryd.prog 111 .nilFunc := .mk (by kernel_rfl)
theorem one_func_api_Ins_bool : OneT Tryd.prog 111 := .mk (by kernel_rfl)
theorem sz_func_func_api_Edge_bool : (Tryd.prog.info? 88).map (·.size) = some 1 := by kernel_rfl
theorem zr_func_func_api_Edge_bool : ZrT Tryd.prog 88 .nilFunc := .mk (by kernel_rfl)
theorem one_func_func_api_Edge_bool : OneT Tryd.prog 88 := .mk (by kernel_rfl)
theorem sz_func_func_int_api_Block_bool : (Tryd.prog.info? 114).map (·.size) = some 1 := by kernel_rfl
theorem zr_func_func_int_api_Block_bool : ZrT Tryd.prog 114 .nilFunc := .mk (by kernel_rfl)
theorem one_func_func_int_api_Block_bool : OneT Tryd.prog 114 := .mk (by kernel_rfl)
theorem sz_func_func_int_api_Ins_bool : (Tryd.prog.info? 118).map (·.size) = some 1 := by kernel_rfl
theorem zr_func_func_int_api_Ins_bool : ZrT Tryd.prog 118 .nilFunc := .mk (by kernel_rfl)
theorem one_func_func_int_api_Ins_bool : OneT Tryd.prog 118 := .mk (by kernel_rfl)
theorem sz_func_func_int_bits_Set_bool : (Tryd.prog.info? 104).map (·.size) = some 1 := by kernel_rfl
theorem zr_func_func_int_bits_Set_bool : ZrT Tryd.prog 104 .nilFunc := .mk (by kernel_rfl)
theorem one_func_func_int_bits_Set_bool : OneT Tryd.prog 104 := .mk (by kernel_rfl)
theorem sz_func_func_int_bool : (Tryd.prog.info? 78).map (·.size) = some 1 := by kernel_rfl
theorem zr_func_func_int_bool : ZrT Tryd.prog 78 .nilFunc := .mk (by kernel_rfl)
theorem one_func_func_int_bool : OneT Tryd.prog 78 := .mk (by kernel_rfl)
theorem sz_func_int : (Tryd.prog.info? 87).map (·.size) = some 1 := by kernel_rfl
theorem zr_func_int : ZrT Tryd.prog 87 .nilFunc := .mk (by kernel_rfl)
theorem one_func_int : OneT Tryd.prog 87 := .mk (by kernel_rfl)
theorem sz_func_int_api_Block_bool : (Tryd.prog.info? 142).map (·.size) = some 1 := by kernel_rfl
theorem zr_func_int_api_Block_bool : ZrT Tryd.prog 142 .nilFunc := .mk (by kernel_rfl)
theorem one_func_int_api_Block_bool : OneT Tryd.prog 142 := .mk (by kernel_rfl)
theorem sz_func_int_api_Ins_bool : (Tryd.prog.info? 143).map (·.size) = some 1 := by kernel_rfl
theorem zr_func_int_api_Ins_bool : ZrT Tryd.prog 143 .nilFunc := .mk (by kernel_rfl)
theorem one_func_int_api_Ins_bool : OneT Tryd.prog 143 := .mk (by kernel_rfl)
theorem sz_func_int_bits_Set_bool : (Tryd.prog.info? 117).map (·.size) = some 1 := by kernel_rfl
theorem zr_func_int_bits_Set_bool : ZrT Tryd.prog 117 .nilFunc := .mk (by kernel_rfl)
theorem one_func_int_bits_Set_bool : OneT Tryd.prog 117 := .mk (by kernel_rfl)
theorem sz_func_int_bool : (Tryd.prog.info? 32).map (·.size) = some 1 := by kernel_rfl
theorem zr_func_int_bool : ZrT Tryd.prog 32 .nilFunc := .mk (by kernel_rfl)
theorem one_func_int_bool : OneT Tryd.prog 32 := .mk (by kernel_rfl)
theorem sz_int : (Tryd.prog.info? 3).map (·.size) = some 1 := by kernel_rfl
theorem zr_int : ZrT Tryd.prog 3 (.int .i64 0) := .mk (by kernel_rfl)
theorem one_int : OneT Tryd.prog 3 := .mk (by kernel_rfl)
theorem in_int : InT Tryd.prog 3 .i64 := .mk (by kernel_rfl)
theorem pr_int : primT Tryd.prog 3 (.int .i64) := ⟨in_int, rfl, sz_int⟩
theorem sz_int64 : (Tryd.prog.info? 2).map (·.size) = some 1 := by kernel_rfl
theorem zr_int64 : ZrT Tryd.prog 2 (.int .i64 0) := .mk (by kernel_rfl)
theorem one_int64 : OneT Tryd.prog 2 := .mk (by kernel_rfl)
theorem in_int64 : InT Tryd.prog 2 .i64 := .mk (by kernel_rfl)
theorem pr_int64 : primT Tryd.prog 2 (.int .i64) := ⟨in_int64, rfl, sz_int64⟩
theorem sz_interface : (Tryd.prog.info? 20).map (·.size) = some 1 := by kernel_rfl
theorem zr_interface : ZrT Tryd.prog 20 .nilIface := .mk (by kernel_rfl)
theorem one_interface : OneT Tryd.prog 20 := .mk (by kernel_rfl)
theorem sz_iter_Seq2_int_api_Block : (Tryd.prog.info? 115).map (·.size) = some 1 := by kernel_rfl
theorem zr_iter_Seq2_int_api_Block : ZrT Tryd.prog 115 .nilFunc := .mk (by kernel_rfl)
theorem one_iter_Seq2_int_api_Block : OneT Tryd.prog 115 := .mk (by kernel_rfl)
theorem sz_iter_Seq2_int_api_Ins : (Tryd.prog.info? 119).map (·.size) = some 1 := by kernel_rfl
theorem zr_iter_Seq2_int_api_Ins : ZrT Tryd.prog 119 .nilFunc := .mk (by kernel_rfl)
theorem one_iter_Seq2_int_api_Ins : OneT Tryd.prog 119 := .mk (by kernel_rfl)
theorem sz_iter_Seq2_int_bits_Set : (Tryd.prog.info? 105).map (·.size) = some 1 := by kernel_rfl
theorem zr_iter_Seq2_int_bits_Set : ZrT Tryd.prog 105 .nilFunc := .mk (by kernel_rfl)
theorem one_iter_Seq2_int_bits_Set : OneT Tryd.prog 105 := .mk (by kernel_rfl)
theorem sz_iter_Seq_api_Edge : (Tryd.prog.info? 89).map (·.size) = some 1 := by kernel_rfl
theorem zr_iter_Seq_api_Edge : ZrT Tryd.prog 89 .nilFunc := .mk (by kernel_rfl)
theorem one_iter_Seq_api_Edge : OneT Tryd.prog 89 := .mk (by kernel_rfl)
theorem sz_iter_Seq_int : (Tryd.prog.info? 79).map (·.size) = some 1 := by kernel_rfl
theorem zr_iter_Seq_int : ZrT Tryd.prog 79 .nilFunc := .mk (by kernel_rfl)
theorem one_iter_Seq_int : OneT Tryd.prog 79 := .mk (by kernel_rfl)
theorem sz_string : (Tryd.prog.info? 9).map (·.size) = some 1 := by kernel_rfl
theorem zr_string : ZrT Tryd.prog 9 (.string ByteArray.empty) := .mk (by kernel_rfl)
theorem one_string : OneT Tryd.prog 9 := .mk (by kernel_rfl)
theorem sz_uint : (Tryd.prog.info? 77).map (·.size) = some 1 := by kernel_rfl
theorem zr_uint : ZrT Tryd.prog 77 (.int .u64 0) := .mk (by kernel_rfl)
theorem one_uint : OneT Tryd.prog 77 := .mk (by kernel_rfl)
theorem in_uint : InT Tryd.prog 77 .u64 := .mk (by kernel_rfl)
theorem pr_uint : primT Tryd.prog 77 (.int .u64) := ⟨in_uint, rfl, sz_uint⟩
theorem sz_uint32 : (Tryd.prog.info? 147).map (·.size) = some 1 := by kernel_rfl
theorem zr_uint32 : ZrT Tryd.prog 147 (.int .u32 0) := .mk (by kernel_rfl)
theorem one_uint32 : OneT Tryd.prog 147 := .mk (by kernel_rfl)
theorem in_uint32 : InT Tryd.prog 147 .u32 := .mk (by kernel_rfl)
theorem pr_uint32 : primT Tryd.prog 147 (.int .u32) := ⟨in_uint32, rfl, sz_uint32⟩
theorem sz_uint64 : (Tryd.prog.info? 25).map (·.size) = some 1 := by kernel_rfl
theorem zr_uint64 : ZrT Tryd.prog 25 (.int .u64 0) := .mk (by kernel_rfl)
theorem one_uint64 : OneT Tryd.prog 25 := .mk (by kernel_rfl)
theorem in_uint64 : InT Tryd.prog 25 .u64 := .mk (by kernel_rfl)
theorem pr_uint64 : primT Tryd.prog 25 (.int .u64) := ⟨in_uint64, rfl, sz_uint64⟩
theorem sz_uint8 : (Tryd.prog.info? 5).map (·.size) = some 1 := by kernel_rfl
theorem zr_uint8 : ZrT Tryd.prog 5 (.int .u8 0) := .mk (by kernel_rfl)
theorem one_uint8 : OneT Tryd.prog 5 := .mk (by kernel_rfl)
theorem in_uint8 : InT Tryd.prog 5 .u8 := .mk (by kernel_rfl)
theorem pr_uint8 : primT Tryd.prog 5 (.int .u8) := ⟨in_uint8, rfl, sz_uint8⟩
theorem sz_A201_bool : (Tryd.prog.info? 68).map (·.size) = some 201 := by kernel_rfl
theorem zr_A201_bool : ZrT Tryd.prog 68 (.agg (Array.replicate 201 (.bool false))) := .mk (by kernel_rfl)
theorem ag_A201_bool : AggT Tryd.prog 68 201 := .mk (by kernel_rfl) (by kernel_rfl)
theorem ar_A201_bool : ArT Tryd.prog 68 201 4 1 := ⟨by kernel_rfl, by kernel_rfl⟩
theorem cm_A201_bool : CmA Tryd.prog 68 201 .bool := ⟨_, ar_A201_bool.1, pr_bool, by kernel_rfl⟩
theorem sz_A2_int : (Tryd.prog.info? 62).map (·.size) = some 2 := by kernel_rfl
theorem zr_A2_int : ZrT Tryd.prog 62 (.agg #[(.int .i64 0), (.int .i64 0)]) := .mk (by kernel_rfl)
theorem ag_A2_int : AggT Tryd.prog 62 2 := .mk (by kernel_rfl) (by kernel_rfl)
theorem ar_A2_int : ArT Tryd.prog 62 2 3 1 := ⟨by kernel_rfl, by kernel_rfl⟩
theorem cm_A2_int : CmA Tryd.prog 62 2 (.int .i64) := ⟨_, ar_A2_int.1, pr_int, by kernel_rfl⟩
theorem sz_A64_uint8 : (Tryd.prog.info? 139).map (·.size) = some 64 := by kernel_rfl
theorem zr_A64_uint8 : ZrT Tryd.prog 139 (.agg (Array.replicate 64 (.int .u8 0))) := .mk (by kernel_rfl)
theorem ag_A64_uint8 : AggT Tryd.prog 139 64 := .mk (by kernel_rfl) (by kernel_rfl)
theorem ar_A64_uint8 : ArT Tryd.prog 139 64 5 1 := ⟨by kernel_rfl, by kernel_rfl⟩
theorem cm_A64_uint8 : CmA Tryd.prog 139 64 (.int .u8) := ⟨_, ar_A64_uint8.1, pr_uint8, by kernel_rfl⟩
theorem sz_api_Block : (Tryd.prog.info? 66).map (·.size) = some 5 := by kernel_rfl
theorem zr_api_Block : ZrT Tryd.prog 66 (.agg #[(.slice none 0 0), (.int .i64 0), (.int .i64 0), (.int .i64 0), (.int .i64 0)]) := .mk (by kernel_rfl)
theorem ag_api_Block : AggT Tryd.prog 66 5 := .mk (by kernel_rfl) (by kernel_rfl)
theorem bs_api_Block : stB Tryd.prog 66 = some [(0, 1), (1, 4)] := by kernel_rfl
theorem fd_api_Block_0 : FdT Tryd.prog 66 0 0 := ⟨0, by kernel_rfl⟩
theorem fv_api_Block_0 : fieldV Tryd.prog 66 0 = some (0, 60) := by kernel_rfl
theorem fd_api_Block_1 : FdT Tryd.prog 66 1 1 := ⟨3, by kernel_rfl⟩
theorem fv_api_Block_1 : fieldV Tryd.prog 66 1 = some (1, 64) := by kernel_rfl
theorem sz_api_Edge : (Tryd.prog.info? 47).map (·.size) = some 3 := by kernel_rfl
theorem zr_api_Edge : ZrT Tryd.prog 47 (.agg #[(.int .i64 0), (.int .i64 0), (.int .i64 0)]) := .mk (by kernel_rfl)
theorem ag_api_Edge : AggT Tryd.prog 47 3 := .mk (by kernel_rfl) (by kernel_rfl)
theorem bs_api_Edge : stB Tryd.prog 47 = some [(0, 1), (1, 1), (2, 1)] := by kernel_rfl
theorem fd_api_Edge_0 : FdT Tryd.prog 47 0 0 := ⟨0, by kernel_rfl⟩
theorem fv_api_Edge_0 : fieldV Tryd.prog 47 0 = some (0, 3) := by kernel_rfl
theorem fd_api_Edge_1 : FdT Tryd.prog 47 1 1 := ⟨0, by kernel_rfl⟩
theorem fv_api_Edge_1 : fieldV Tryd.prog 47 1 = some (1, 3) := by kernel_rfl
theorem fd_api_Edge_2 : FdT Tryd.prog 47 2 2 := ⟨0, by kernel_rfl⟩
theorem fv_api_Edge_2 : fieldV Tryd.prog 47 2 = some (2, 3) := by kernel_rfl
theorem sz_api_Func : (Tryd.prog.info? 38).map (·.size) = some 2 := by kernel_rfl
theorem zr_api_Func : ZrT Tryd.prog 38 (.agg #[(.slice none 0 0), (.slice none 0 0)]) := .mk (by kernel_rfl)
theorem ag_api_Func : AggT Tryd.prog 38 2 := .mk (by kernel_rfl) (by kernel_rfl)
theorem bs_api_Func : stB Tryd.prog 38 = some [(0, 1), (1, 1)] := by kernel_rfl
theorem fd_api_Func_0 : FdT Tryd.prog 38 0 0 := ⟨0, by kernel_rfl⟩
theorem fv_api_Func_0 : fieldV Tryd.prog 38 0 = some (0, 22) := by kernel_rfl
theorem fd_api_Func_1 : FdT Tryd.prog 38 1 1 := ⟨0, by kernel_rfl⟩
theorem fv_api_Func_1 : fieldV Tryd.prog 38 1 = some (1, 36) := by kernel_rfl
theorem sz_api_Ins : (Tryd.prog.info? 72).map (·.size) = some 8 := by kernel_rfl
theorem zr_api_Ins : ZrT Tryd.prog 72 (.agg #[(.int .i64 0), (.int .i64 0), (.int .i64 0), (.int .i64 0), (.int .i64 0), (.int .i64 0), (.slice none 0 0), (.int .i64 0)]) := .mk (by kernel_rfl)
theorem ag_api_Ins : AggT Tryd.prog 72 8 := .mk (by kernel_rfl) (by kernel_rfl)
theorem bs_api_Ins : stB Tryd.prog 72 = some [(0, 1), (1, 1), (2, 1), (3, 1), (4, 1), (5, 1), (6, 1), (7, 1)] := by kernel_rfl
theorem fd_api_Ins_0 : FdT Tryd.prog 72 0 0 := ⟨0, by kernel_rfl⟩
theorem fv_api_Ins_0 : fieldV Tryd.prog 72 0 = some (0, 70) := by kernel_rfl
theorem fd_api_Ins_1 : FdT Tryd.prog 72 1 1 := ⟨0, by kernel_rfl⟩
theorem fv_api_Ins_1 : fieldV Tryd.prog 72 1 = some (1, 3) := by kernel_rfl
theorem fd_api_Ins_2 : FdT Tryd.prog 72 2 2 := ⟨0, by kernel_rfl⟩
theorem fv_api_Ins_2 : fieldV Tryd.prog 72 2 = some (2, 3) := by kernel_rfl
theorem fd_api_Ins_3 : FdT Tryd.prog 72 3 3 := ⟨0, by kernel_rfl⟩
theorem fv_api_Ins_3 : fieldV Tryd.prog 72 3 = some (3, 3) := by kernel_rfl
theorem fd_api_Ins_4 : FdT Tryd.prog 72 4 4 := ⟨0, by kernel_rfl⟩
theorem fv_api_Ins_4 : fieldV Tryd.prog 72 4 = some (4, 3) := by kernel_rfl
theorem fd_api_Ins_5 : FdT Tryd.prog 72 5 5 := ⟨0, by kernel_rfl⟩
theorem fv_api_Ins_5 : fieldV Tryd.prog 72 5 = some (5, 3) := by kernel_rfl
theorem fd_api_Ins_6 : FdT Tryd.prog 72 6 6 := ⟨0, by kernel_rfl⟩
theorem fv_api_Ins_6 : fieldV Tryd.prog 72 6 = some (6, 22) := by kernel_rfl
theorem fd_api_Ins_7 : FdT Tryd.prog 72 7 7 := ⟨0, by kernel_rfl⟩
theorem fv_api_Ins_7 : fieldV Tryd.prog 72 7 = some (7, 3) := by kernel_rfl
theorem sz_api_Term : (Tryd.prog.info? 64).map (·.size) = some 4 := by kernel_rfl
theorem zr_api_Term : ZrT Tryd.prog 64 (.agg #[(.int .i64 0), (.int .i64 0), (.int .i64 0), (.int .i64 0)]) := .mk (by kernel_rfl)
theorem ag_api_Term : AggT Tryd.prog 64 4 := .mk (by kernel_rfl) (by kernel_rfl)
theorem bs_api_Term : stB Tryd.prog 64 = some [(0, 1), (1, 1), (2, 2)] := by kernel_rfl
theorem fd_api_Term_0 : FdT Tryd.prog 64 0 0 := ⟨0, by kernel_rfl⟩
theorem fv_api_Term_0 : fieldV Tryd.prog 64 0 = some (0, 61) := by kernel_rfl
theorem fd_api_Term_1 : FdT Tryd.prog 64 1 1 := ⟨0, by kernel_rfl⟩
theorem fv_api_Term_1 : fieldV Tryd.prog 64 1 = some (1, 3) := by kernel_rfl
theorem fd_api_Term_2 : FdT Tryd.prog 64 2 2 := ⟨1, by kernel_rfl⟩
theorem fv_api_Term_2 : fieldV Tryd.prog 64 2 = some (2, 62) := by kernel_rfl
theorem sz_bits_Set : (Tryd.prog.info? 27).map (·.size) = some 16 := by kernel_rfl
theorem zr_bits_Set : ZrT Tryd.prog 27 (.agg #[(.int .u64 0), (.int .u64 0), (.int .u64 0), (.int .u64 0), (.int .u64 0), (.int .u64 0), (.int .u64 0), (.int .u64 0), (.int .u64 0), (.int .u64 0), (.int .u64 0), (.int .u64 0), (.int .u64 0), (.int .u64 0), (.int .u64 0), (.int .u64 0)]) := .mk (by kernel_rfl)
theorem ag_bits_Set : AggT Tryd.prog 27 16 := .mk (by kernel_rfl) (by kernel_rfl)
theorem ar_bits_Set : ArT Tryd.prog 27 16 25 1 := ⟨by kernel_rfl, by kernel_rfl⟩
theorem cm_bits_Set : CmA Tryd.prog 27 16 (.int .u64) := ⟨_, ar_bits_Set.1, pr_uint64, by kernel_rfl⟩
theorem sz_dom_tree : (Tryd.prog.info? 96).map (·.size) = some 2 := by kernel_rfl
theorem zr_dom_tree : ZrT Tryd.prog 96 (.agg #[(.slice none 0 0), (.slice none 0 0)]) := .mk (by kernel_rfl)
theorem ag_dom_tree : AggT Tryd.prog 96 2 := .mk (by kernel_rfl) (by kernel_rfl)
theorem bs_dom_tree : stB Tryd.prog 96 = some [(0, 1), (1, 1)] := by kernel_rfl
theorem fd_dom_tree_0 : FdT Tryd.prog 96 0 0 := ⟨0, by kernel_rfl⟩
theorem fv_dom_tree_0 : fieldV Tryd.prog 96 0 = some (0, 22) := by kernel_rfl
theorem fd_dom_tree_1 : FdT Tryd.prog 96 1 1 := ⟨0, by kernel_rfl⟩
theorem fv_dom_tree_1 : fieldV Tryd.prog 96 1 = some (1, 22) := by kernel_rfl
theorem sz_ir_set : (Tryd.prog.info? 124).map (·.size) = some 201 := by kernel_rfl
theorem zr_ir_set : ZrT Tryd.prog 124 (.agg (Array.replicate 201 (.bool false))) := .mk (by kernel_rfl)
theorem ag_ir_set : AggT Tryd.prog 124 201 := .mk (by kernel_rfl) (by kernel_rfl)
theorem ar_ir_set : ArT Tryd.prog 124 201 4 1 := ⟨by kernel_rfl, by kernel_rfl⟩
theorem cm_ir_set : CmA Tryd.prog 124 201 .bool := ⟨_, ar_ir_set.1, pr_bool, by kernel_rfl⟩
theorem sz_ir_shape : (Tryd.prog.info? 135).map (·.size) = some 5 := by kernel_rfl
theorem zr_ir_shape : ZrT Tryd.prog 135 (.agg #[(.bool false), (.bool false), (.bool false), (.bool false), (.bool false)]) := .mk (by kernel_rfl)
theorem ag_ir_shape : AggT Tryd.prog 135 5 := .mk (by kernel_rfl) (by kernel_rfl)
theorem bs_ir_shape : stB Tryd.prog 135 = some [(0, 1), (1, 1), (2, 1), (3, 1), (4, 1)] := by kernel_rfl
theorem fd_ir_shape_0 : FdT Tryd.prog 135 0 0 := ⟨0, by kernel_rfl⟩
theorem fv_ir_shape_0 : fieldV Tryd.prog 135 0 = some (0, 4) := by kernel_rfl
theorem fd_ir_shape_1 : FdT Tryd.prog 135 1 1 := ⟨0, by kernel_rfl⟩
theorem fv_ir_shape_1 : fieldV Tryd.prog 135 1 = some (1, 4) := by kernel_rfl
theorem fd_ir_shape_2 : FdT Tryd.prog 135 2 2 := ⟨0, by kernel_rfl⟩
theorem fv_ir_shape_2 : fieldV Tryd.prog 135 2 = some (2, 4) := by kernel_rfl
theorem fd_ir_shape_3 : FdT Tryd.prog 135 3 3 := ⟨0, by kernel_rfl⟩
theorem fv_ir_shape_3 : fieldV Tryd.prog 135 3 = some (3, 4) := by kernel_rfl
theorem fd_ir_shape_4 : FdT Tryd.prog 135 4 4 := ⟨0, by kernel_rfl⟩
theorem fv_ir_shape_4 : fieldV Tryd.prog 135 4 = some (4, 4) := by kernel_rfl
theorem sz_live_Live : (Tryd.prog.info? 54).map (·.size) = some 3 := by kernel_rfl
theorem zr_live_Live : ZrT Tryd.prog 54 (.agg #[(.slice none 0 0), (.slice none 0 0), (.slice none 0 0)]) := .mk (by kernel_rfl)
theorem ag_live_Live : AggT Tryd.prog 54 3 := .mk (by kernel_rfl) (by kernel_rfl)
theorem bs_live_Live : stB Tryd.prog 54 = some [(0, 1), (1, 1), (2, 1)] := by kernel_rfl
theorem fd_live_Live_0 : FdT Tryd.prog 54 0 0 := ⟨0, by kernel_rfl⟩
theorem fv_live_Live_0 : fieldV Tryd.prog 54 0 = some (0, 51) := by kernel_rfl
theorem fd_live_Live_1 : FdT Tryd.prog 54 1 1 := ⟨0, by kernel_rfl⟩
theorem fv_live_Live_1 : fieldV Tryd.prog 54 1 = some (1, 51) := by kernel_rfl
theorem fd_live_Live_2 : FdT Tryd.prog 54 2 2 := ⟨0, by kernel_rfl⟩
theorem fv_live_Live_2 : fieldV Tryd.prog 54 2 = some (2, 52) := by kernel_rfl
theorem sz_live_flow : (Tryd.prog.info? 102).map (·.size) = some 2 := by kernel_rfl
theorem zr_live_flow : ZrT Tryd.prog 102 (.agg #[(.slice none 0 0), (.slice none 0 0)]) := .mk (by kernel_rfl)
theorem ag_live_flow : AggT Tryd.prog 102 2 := .mk (by kernel_rfl) (by kernel_rfl)
theorem bs_live_flow : stB Tryd.prog 102 = some [(0, 1), (1, 1)] := by kernel_rfl
theorem fd_live_flow_0 : FdT Tryd.prog 102 0 0 := ⟨0, by kernel_rfl⟩
theorem fv_live_flow_0 : fieldV Tryd.prog 102 0 = some (0, 100) := by kernel_rfl
theorem fd_live_flow_1 : FdT Tryd.prog 102 1 1 := ⟨0, by kernel_rfl⟩
theorem fv_live_flow_1 : fieldV Tryd.prog 102 1 = some (1, 100) := by kernel_rfl
theorem sz_map_int_int : (Tryd.prog.info? 93).map (·.size) = some 1 := by kernel_rfl
theorem zr_map_int_int : ZrT Tryd.prog 93 (.map none) := .mk (by kernel_rfl)
theorem one_map_int_int : OneT Tryd.prog 93 := .mk (by kernel_rfl)
theorem mt_map_int_int : MpT Tryd.prog 93 (.int .i64 0) := ⟨3, 3, by kernel_rfl, by kernel_rfl, zr_int⟩
theorem mp_map_int_int : Tryd.prog.underlying 93 = some (.map 3 3) := by kernel_rfl
theorem en_P_ir_set_has : Ent Tryd.prog 107 := Ent.mk Tryd.func107 rfl (by kernel_rfl)
theorem en_P_ir_set_has_1 : Ent Tryd.prog 112 := Ent.mk Tryd.func112 rfl (by kernel_rfl)
theorem en_bits_Set_And : Ent Tryd.prog 19 := Ent.mk Tryd.func19 rfl (by kernel_rfl)
theorem en_bits_Set_First : Ent Tryd.prog 22 := Ent.mk Tryd.func22 rfl (by kernel_rfl)
theorem en_bits_Set_Has : Ent Tryd.prog 18 := Ent.mk Tryd.func18 rfl (by kernel_rfl)
theorem en_bits_Set_Less : Ent Tryd.prog 15 := Ent.mk Tryd.func15 rfl (by kernel_rfl)
theorem en_bits_Set_List : Ent Tryd.prog 20 := Ent.mk Tryd.func20 rfl (by kernel_rfl)
theorem en_bits_Set_Many : Ent Tryd.prog 21 := Ent.mk Tryd.func21 rfl (by kernel_rfl)
theorem en_bits_Set_Or : Ent Tryd.prog 16 := Ent.mk Tryd.func16 rfl (by kernel_rfl)
theorem en_bits_Set_With : Ent Tryd.prog 13 := Ent.mk Tryd.func13 rfl (by kernel_rfl)
theorem en_bits_Set_Without : Ent Tryd.prog 14 := Ent.mk Tryd.func14 rfl (by kernel_rfl)
theorem en_bits_Set_each : Ent Tryd.prog 48 := Ent.mk Tryd.func48 rfl (by kernel_rfl)
theorem en_bits_Set_each_1 : Ent Tryd.prog 77 := Ent.mk Tryd.func77 rfl (by kernel_rfl)
theorem en_dom_tree_chain : Ent Tryd.prog 83 := Ent.mk Tryd.func83 rfl (by kernel_rfl)
theorem en_dom_tree_chain_1 : Ent Tryd.prog 102 := Ent.mk Tryd.func102 rfl (by kernel_rfl)
theorem en_dom_tree_meet : Ent Tryd.prog 81 := Ent.mk Tryd.func81 rfl (by kernel_rfl)
theorem en_dom_tree_over : Ent Tryd.prog 66 := Ent.mk Tryd.func66 rfl (by kernel_rfl)
theorem en_dom_tree_reached : Ent Tryd.prog 80 := Ent.mk Tryd.func80 rfl (by kernel_rfl)
theorem en_ir_set_meet : Ent Tryd.prog 94 := Ent.mk Tryd.func94 rfl (by kernel_rfl)
theorem en_ir_set_past : Ent Tryd.prog 95 := Ent.mk Tryd.func95 rfl (by kernel_rfl)
theorem en_bits_Of : Ent Tryd.prog 12 := Ent.mk Tryd.func12 rfl (by kernel_rfl)
theorem en_dom_Both : Ent Tryd.prog 64 := Ent.mk Tryd.func64 rfl (by kernel_rfl)
theorem en_dom_Of : Ent Tryd.prog 34 := Ent.mk Tryd.func34 rfl (by kernel_rfl)
theorem en_dom_Over : Ent Tryd.prog 36 := Ent.mk Tryd.func36 rfl (by kernel_rfl)
theorem en_dom_made : Ent Tryd.prog 65 := Ent.mk Tryd.func65 rfl (by kernel_rfl)
theorem en_flow_Closed : Ent Tryd.prog 26 := Ent.mk Tryd.func26 rfl (by kernel_rfl)
theorem en_flow_Critical : Ent Tryd.prog 30 := Ent.mk Tryd.func30 rfl (by kernel_rfl)
theorem en_flow_Critical_1 : Ent Tryd.prog 59 := Ent.mk Tryd.func59 rfl (by kernel_rfl)
theorem en_flow_Edges : Ent Tryd.prog 27 := Ent.mk Tryd.func27 rfl (by kernel_rfl)
theorem en_flow_Edges_1 : Ent Tryd.prog 58 := Ent.mk Tryd.func58 rfl (by kernel_rfl)
theorem en_flow_From : Ent Tryd.prog 31 := Ent.mk Tryd.func31 rfl (by kernel_rfl)
theorem en_flow_From_1 : Ent Tryd.prog 60 := Ent.mk Tryd.func60 rfl (by kernel_rfl)
theorem en_flow_Into : Ent Tryd.prog 32 := Ent.mk Tryd.func32 rfl (by kernel_rfl)
theorem en_flow_Into_1 : Ent Tryd.prog 61 := Ent.mk Tryd.func61 rfl (by kernel_rfl)
theorem en_flow_Order : Ent Tryd.prog 25 := Ent.mk Tryd.func25 rfl (by kernel_rfl)
theorem en_flow_Order_1 : Ent Tryd.prog 55 := Ent.mk Tryd.func55 rfl (by kernel_rfl)
theorem en_flow_Reached : Ent Tryd.prog 28 := Ent.mk Tryd.func28 rfl (by kernel_rfl)
theorem en_flow_each : Ent Tryd.prog 56 := Ent.mk Tryd.func56 rfl (by kernel_rfl)
theorem en_flow_each_1 : Ent Tryd.prog 79 := Ent.mk Tryd.func79 rfl (by kernel_rfl)
theorem en_flow_some : Ent Tryd.prog 57 := Ent.mk Tryd.func57 rfl (by kernel_rfl)
theorem en_kit_BlocksOf : Ent Tryd.prog 54 := Ent.mk Tryd.func54 rfl (by kernel_rfl)
theorem en_kit_FuncOf : Ent Tryd.prog 24 := Ent.mk Tryd.func24 rfl (by kernel_rfl)
theorem en_kit_Pick : Ent Tryd.prog 11 := Ent.mk Tryd.func11 rfl (by kernel_rfl)
theorem en_kit_SameInts : Ent Tryd.prog 53 := Ent.mk Tryd.func53 rfl (by kernel_rfl)
theorem en_law10_FlowCounts : Ent Tryd.prog 6 := Ent.mk Tryd.func6 rfl (by kernel_rfl)
theorem en_law10_FlowOrder : Ent Tryd.prog 5 := Ent.mk Tryd.func5 rfl (by kernel_rfl)
theorem en_law10_awake : Ent Tryd.prog 23 := Ent.mk Tryd.func23 rfl (by kernel_rfl)
theorem en_law10_branch : Ent Tryd.prog 50 := Ent.mk Tryd.func50 rfl (by kernel_rfl)
theorem en_law10_jump : Ent Tryd.prog 51 := Ent.mk Tryd.func51 rfl (by kernel_rfl)
theorem en_law10_place : Ent Tryd.prog 29 := Ent.mk Tryd.func29 rfl (by kernel_rfl)
theorem en_law10_trap : Ent Tryd.prog 52 := Ent.mk Tryd.func52 rfl (by kernel_rfl)
theorem en_law11_DomTree : Ent Tryd.prog 7 := Ent.mk Tryd.func7 rfl (by kernel_rfl)
theorem en_law11_awake : Ent Tryd.prog 33 := Ent.mk Tryd.func33 rfl (by kernel_rfl)
theorem en_law11_branch : Ent Tryd.prog 62 := Ent.mk Tryd.func62 rfl (by kernel_rfl)
theorem en_law11_has : Ent Tryd.prog 35 := Ent.mk Tryd.func35 rfl (by kernel_rfl)
theorem en_law11_jump : Ent Tryd.prog 63 := Ent.mk Tryd.func63 rfl (by kernel_rfl)
theorem en_law15_BitsLaws : Ent Tryd.prog 4 := Ent.mk Tryd.func4 rfl (by kernel_rfl)
theorem en_law15_BitsTurn : Ent Tryd.prog 3 := Ent.mk Tryd.func3 rfl (by kernel_rfl)
theorem en_law15_awake : Ent Tryd.prog 10 := Ent.mk Tryd.func10 rfl (by kernel_rfl)
theorem en_law15_has : Ent Tryd.prog 17 := Ent.mk Tryd.func17 rfl (by kernel_rfl)
theorem en_law16_LiveAhead : Ent Tryd.prog 8 := Ent.mk Tryd.func8 rfl (by kernel_rfl)
theorem en_law16_LiveLeast : Ent Tryd.prog 9 := Ent.mk Tryd.func9 rfl (by kernel_rfl)
theorem en_law16_add : Ent Tryd.prog 67 := Ent.mk Tryd.func67 rfl (by kernel_rfl)
theorem en_law16_awake : Ent Tryd.prog 37 := Ent.mk Tryd.func37 rfl (by kernel_rfl)
theorem en_law16_has : Ent Tryd.prog 40 := Ent.mk Tryd.func40 rfl (by kernel_rfl)
theorem en_law16_local : Ent Tryd.prog 41 := Ent.mk Tryd.func41 rfl (by kernel_rfl)
theorem en_ir_Defines : Ent Tryd.prog 44 := Ent.mk Tryd.func44 rfl (by kernel_rfl)
theorem en_ir_IsIns : Ent Tryd.prog 76 := Ent.mk Tryd.func76 rfl (by kernel_rfl)
theorem en_ir_IsIns_1 : Ent Tryd.prog 99 := Ent.mk Tryd.func99 rfl (by kernel_rfl)
theorem en_ir_IsTerm : Ent Tryd.prog 74 := Ent.mk Tryd.func74 rfl (by kernel_rfl)
theorem en_ir_Needs : Ent Tryd.prog 43 := Ent.mk Tryd.func43 rfl (by kernel_rfl)
theorem en_ir_Reads : Ent Tryd.prog 45 := Ent.mk Tryd.func45 rfl (by kernel_rfl)
theorem en_ir_Right : Ent Tryd.prog 39 := Ent.mk Tryd.func39 rfl (by kernel_rfl)
theorem en_ir_To : Ent Tryd.prog 42 := Ent.mk Tryd.func42 rfl (by kernel_rfl)
theorem en_ir_fits : Ent Tryd.prog 97 := Ent.mk Tryd.func97 rfl (by kernel_rfl)
theorem en_ir_full : Ent Tryd.prog 93 := Ent.mk Tryd.func93 rfl (by kernel_rfl)
theorem en_ir_long : Ent Tryd.prog 70 := Ent.mk Tryd.func70 rfl (by kernel_rfl)
theorem en_ir_long_1 : Ent Tryd.prog 89 := Ent.mk Tryd.func89 rfl (by kernel_rfl)
theorem en_ir_none : Ent Tryd.prog 96 := Ent.mk Tryd.func96 rfl (by kernel_rfl)
theorem en_ir_none_1 : Ent Tryd.prog 108 := Ent.mk Tryd.func108 rfl (by kernel_rfl)
theorem en_ir_reach : Ent Tryd.prog 72 := Ent.mk Tryd.func72 rfl (by kernel_rfl)
theorem en_ir_shaped : Ent Tryd.prog 98 := Ent.mk Tryd.func98 rfl (by kernel_rfl)
theorem en_ir_valued : Ent Tryd.prog 73 := Ent.mk Tryd.func73 rfl (by kernel_rfl)
theorem en_ir_variable : Ent Tryd.prog 90 := Ent.mk Tryd.func90 rfl (by kernel_rfl)
theorem en_ir_whole : Ent Tryd.prog 71 := Ent.mk Tryd.func71 rfl (by kernel_rfl)
theorem en_ir_whole_1 : Ent Tryd.prog 92 := Ent.mk Tryd.func92 rfl (by kernel_rfl)
theorem en_live_Most : Ent Tryd.prog 46 := Ent.mk Tryd.func46 rfl (by kernel_rfl)
theorem en_live_Of : Ent Tryd.prog 38 := Ent.mk Tryd.func38 rfl (by kernel_rfl)
theorem en_live_On : Ent Tryd.prog 47 := Ent.mk Tryd.func47 rfl (by kernel_rfl)
theorem en_live_ahead : Ent Tryd.prog 87 := Ent.mk Tryd.func87 rfl (by kernel_rfl)
theorem en_live_points : Ent Tryd.prog 69 := Ent.mk Tryd.func69 rfl (by kernel_rfl)
theorem en_live_points_1 : Ent Tryd.prog 85 := Ent.mk Tryd.func85 rfl (by kernel_rfl)
theorem en_live_solved : Ent Tryd.prog 68 := Ent.mk Tryd.func68 rfl (by kernel_rfl)
theorem en_math_bits_Mul : Ent Tryd.prog 101 := Ent.mk Tryd.func101 rfl (by kernel_rfl)
theorem en_math_bits_Mul32 : Ent Tryd.prog 110 := Ent.mk Tryd.func110 rfl (by kernel_rfl)
theorem en_math_bits_Mul64 : Ent Tryd.prog 111 := Ent.mk Tryd.func111 rfl (by kernel_rfl)
theorem en_math_bits_OnesCount64 : Ent Tryd.prog 49 := Ent.mk Tryd.func49 rfl (by kernel_rfl)
theorem en_math_bits_TrailingZeros64 : Ent Tryd.prog 78 := Ent.mk Tryd.func78 rfl (by kernel_rfl)
theorem en_slices_Backward_L_api_Block_api_Block : Ent Tryd.prog 84 := Ent.mk Tryd.func84 rfl (by kernel_rfl)
theorem en_slices_Backward_L_api_Block_api_Block_1 : Ent Tryd.prog 103 := Ent.mk Tryd.func103 rfl (by kernel_rfl)
theorem en_slices_Backward_L_api_Ins_api_Ins : Ent Tryd.prog 86 := Ent.mk Tryd.func86 rfl (by kernel_rfl)
theorem en_slices_Backward_L_api_Ins_api_Ins_1 : Ent Tryd.prog 104 := Ent.mk Tryd.func104 rfl (by kernel_rfl)
theorem en_slices_Clone_L_int_int : Ent Tryd.prog 75 := Ent.mk Tryd.func75 rfl (by kernel_rfl)
theorem en_slices_ContainsFunc_L_int_int : Ent Tryd.prog 100 := Ent.mk Tryd.func100 rfl (by kernel_rfl)
theorem en_slices_ContainsFunc_L_api_Block_api_Block : Ent Tryd.prog 88 := Ent.mk Tryd.func88 rfl (by kernel_rfl)
theorem en_slices_ContainsFunc_L_api_Ins_api_Ins : Ent Tryd.prog 91 := Ent.mk Tryd.func91 rfl (by kernel_rfl)
theorem en_slices_IndexFunc_L_int_int : Ent Tryd.prog 109 := Ent.mk Tryd.func109 rfl (by kernel_rfl)
theorem en_slices_IndexFunc_L_api_Block_api_Block : Ent Tryd.prog 105 := Ent.mk Tryd.func105 rfl (by kernel_rfl)
theorem en_slices_IndexFunc_L_api_Ins_api_Ins : Ent Tryd.prog 106 := Ent.mk Tryd.func106 rfl (by kernel_rfl)
theorem en_slices_Repeat_L_int_int : Ent Tryd.prog 82 := Ent.mk Tryd.func82 rfl (by kernel_rfl)
theorem mixed : Tryd.prog.follows .mixedOrders = true := by kernel_rfl
end Go.Proofs.YtbcnejobnmljlaaDoor

/- The package bits: sets, walked. -/
namespace Go.Proofs.YtbcnejobnmljlaaDoor
set_option linter.unusedVariables false
open Go Go.RowKit
set_option maxRecDepth 100000

def I64 (n : Int) : Prop := -9223372036854775808 ≤ n ∧ n ≤ 9223372036854775807
theorem uint_lt {n : Int} (h : I64 n) : decide (IntKind.u64.wrap n < 1024) = okN n := by
  unfold I64 at h
  rw [wrapU]
  unfold okN
  by_cases h1 : 0 ≤ n <;> by_cases h2 : n < 1024 <;> simp [h1, h2] <;> omega
theorem okN_nat {n : Int} (h : okN n = true) : ∃ k : Nat, n = (k : Int) ∧ k < 1024 := by
  rw [okN_iff] at h
  exact ⟨n.toNat, by omega, by omega⟩
theorem and63 (k : Nat) : k &&& 63 = k % 64 := Nat.and_two_pow_sub_one_eq_mod k 6
theorem pow_mod64 (k : Nat) : 1 * 2 ^ (k % 64) % 2 ^ 64 = 2 ^ (k % 64) := by
  rw [Nat.one_mul, Nat.mod_eq_of_lt]
  exact Nat.pow_lt_pow_right (by decide) (Nat.mod_lt _ (by decide))
theorem pow_lt64 (k : Nat) : 2 ^ (k % 64) < 2 ^ 64 := Nat.pow_lt_pow_right (by decide) (Nat.mod_lt _ (by decide))
theorem take_snoc {α : Type} {l : List α} {k : Nat} (h : k < l.length) : l.take (k + 1) = l.take k ++ [l[k]] := List.take_succ_eq_append_getElem h
theorem withL_take {s : Nat} {l : List Int} {k : Nat} (h : k < l.length) : withL s (l.take (k + 1)) = put (withL s (l.take k)) l[k] := by
  unfold withL; rw [take_snoc h, List.foldl_append]; rfl
theorem lessL_take {s : Nat} {l : List Int} {k : Nat} (h : k < l.length) : lessL s (l.take (k + 1)) = cut (lessL s (l.take k)) l[k] := by
  unfold lessL; rw [take_snoc h, List.foldl_append]; rfl

section
theorem bits_Set_With_ct {w : World} {s : Nat} {A : Option Addr} {c : Nat} {l : List Int} (hl : Reads w w.heap.size 1 A l.length (ints l)) (hi : ∀ n ∈ l, I64 n) (hb : l.length < 2 ^ 62) :
    Ct Tryd.prog 13 #[.agg (enc s), .slice A l.length c] w (Is (.agg (enc (withL s l)))) := by
  refine Ct.mk Tryd.func13 rfl rfl ?_
  refine Cd.seq ?_
  refine Cd.region ?_
  refine Ol.x bxg ?_
  rintro _ _ ⟨g2, rfl, rfl⟩
  refine Ol.x (alc zr_bits_Set) ?_
  rintro _ _ ⟨g4, rfl, rfl⟩
  refine Ol.nil ?_
  refine Cd.seq ?_
  refine Cd.seq ?_
  refine Cd.region ?_
  refine Ol.p mvs ?_
  refine Ol.p (lens sl_L_int) ?_
  refine Ol.p mvi ?_
  refine Ol.nil ?_
  refine Cd.block ?_
  refine Cd.loop (fun m σ L => ∃ k, m = l.length - k ∧ k ≤ l.length ∧ Has σ [(2, .pointer (some ⟨g2, 0, none⟩)), (4, .pointer (some ⟨g4, 0, none⟩)), (7, .slice A l.length c), (8, .int .i64 l.length), (9, .int .i64 k)] ∧ L = [blk g4 (.cells (Array.replicate 16 (.int .u64 0)) 27), blk g2 (.cells (enc (withL s (l.take k))) 27)]) (n := l.length) ⟨0, rfl, Nat.zero_le _, ⟨rfl, rfl, rfl, rfl, rfl, trivial⟩, rfl⟩ ?_
  rintro _ σ L ⟨k, rfl, hk, hs, rfl⟩
  refine Cd.has hs ?_
  refine Cd.seq ?_
  refine Cd.region ?_
  refine Ol.p lsi ?_
  refine Ol.nil ?_
  refine Cd.seq ?_
  refine Cd.cond rfl (fun h => ?_) (fun h => ?_)
  · have hlt : k < l.length := by simpa using h
    have hI : I64 l[k] := hi _ (List.getElem_mem hlt)
    refine Cd.skip ?_
    refine Cd.mid (fun σ' L' => Has σ' [(2, .pointer (some ⟨g2, 0, none⟩)), (4, .pointer (some ⟨g4, 0, none⟩)), (7, .slice A l.length c), (8, .int .i64 l.length), (9, .int .i64 k)] ∧ L' = [blk g4 (.cells (Array.replicate 16 (.int .u64 0)) 27), blk g2 (.cells (enc (withL s (l.take (k + 1)))) 27)]) ?_ ?_
    · refine Cd.block ?_
      refine Cd.seq ?_
      refine Cd.region ?_
      refine Ol.p (ixn1 sl_L_int (Som.slc hl (by omega))) ?_
      refine Ol.p (ld one_int (Rd.slc hl (ints_get hlt))) ?_
      refine Ol.p asi ?_
      refine Ol.nil ?_
      refine Cd.seq ?_
      refine Cd.region ?_
      refine Ol.p mvi ?_
      refine Ol.p (cvw in_int in_uint) ?_
      refine Ol.p lsi ?_
      refine Ol.nil ?_
      refine Cd.cond rfl (fun h2 => ?_) (fun h2 => ?_)
      · rw [uint_lt hI] at h2
        obtain ⟨q, hq, hq2⟩ := okN_nat h2
        rw [hq]
        refine Cd.draw mixed 9 (fun _ => none) (fun _ => []) (by kernel_rfl) (fun _ _ h => by cases h) (fun u hu => ?_)
        refine Wk.p mvi ?_
        refine Wk.p (shrn (n := 6)) ?_
        refine Wk.p (ixl1 (ix := q / 64) ar_bits_Set) ?_
        refine Wk.p (ld one_uint64 (Rd.blk (i := 1) rfl (encF_get (i := q / 64) (by omega)))) ?_
        refine Wk.p mvi ?_
        refine Wk.p (andn (b := 63)) ?_
        refine Wk.p (shlu (a := 1) (n := q &&& 63) (hn := by rw [and63]; omega)) ?_
        refine Wk.p (oru (ha := wd_lt _ _) (hb := Nat.mod_lt _ (by decide))) ?_
        refine Wk.p (ixl1 (ix := q / 64) ar_bits_Set) ?_
        refine Wk.nil ?_
        refine Ol.s (sto (k := q / 64) (.inr sz_uint64) rfl rfl (i := 1) rfl (by rw [enc_size]; omega) rfl) ?_
        refine Ol.nil ?_
        refine ⟨⟨rfl, rfl, rfl, rfl, rfl, trivial⟩, ?_⟩
        rw [withL_take hlt, hq, ← enc_put hq2, and63, pow_mod64]
        rfl
      · rw [uint_lt hI] at h2
        refine Cd.skip ⟨⟨rfl, rfl, rfl, rfl, rfl, trivial⟩, ?_⟩
        rw [withL_take hlt]
        simp [put, h2]
    · rintro σ' _ ⟨hs', rfl⟩
      refine Cd.has hs' ?_
      refine Cd.region ?_
      refine Ol.p addi ?_
      refine Ol.p mvi ?_
      refine Ol.nil ?_
      refine ⟨l.length - (k + 1), by omega, k + 1, rfl, by omega, ⟨rfl, rfl, rfl, rfl, rfl, trivial⟩, rfl⟩
  · have hge : k = l.length := by
      have : ¬ (k : Int) < l.length := by simpa using h
      omega
    subst hge
    refine Cd.exit (id := 0) ?_
    refine Cd.seq ?_
    refine Cd.region ?_
    refine Ol.p (ldw ag_bits_Set (i := 1) rfl (enc_size _)) ?_
    refine Ol.s (stw sz_bits_Set (enc_size _) (encF_one _) (i := 0) rfl (by simp)) ?_
    refine Ol.nil ?_
    refine Cd.ret ?_
    refine ⟨_, retc rfl ag_bits_Set rfl (i := 0) rfl (enc_size _), [], .nil, ?_, rfl⟩
    rw [List.take_length]
end

section
theorem bits_Set_Without_ct {w : World} {s : Nat} {A : Option Addr} {c : Nat} {l : List Int} (hl : Reads w w.heap.size 1 A l.length (ints l)) (hi : ∀ n ∈ l, I64 n) (hb : l.length < 2 ^ 62) :
    Ct Tryd.prog 14 #[.agg (enc s), .slice A l.length c] w (Is (.agg (enc (lessL s l)))) := by
  refine Ct.mk Tryd.func14 rfl rfl ?_
  refine Cd.seq ?_
  refine Cd.region ?_
  refine Ol.x bxg ?_
  rintro _ _ ⟨g2, rfl, rfl⟩
  refine Ol.x (alc zr_bits_Set) ?_
  rintro _ _ ⟨g4, rfl, rfl⟩
  refine Ol.nil ?_
  refine Cd.seq ?_
  refine Cd.seq ?_
  refine Cd.region ?_
  refine Ol.p mvs ?_
  refine Ol.p (lens sl_L_int) ?_
  refine Ol.p mvi ?_
  refine Ol.nil ?_
  refine Cd.block ?_
  refine Cd.loop (fun m σ L => ∃ k, m = l.length - k ∧ k ≤ l.length ∧ Has σ [(2, .pointer (some ⟨g2, 0, none⟩)), (4, .pointer (some ⟨g4, 0, none⟩)), (7, .slice A l.length c), (8, .int .i64 l.length), (9, .int .i64 k)] ∧ L = [blk g4 (.cells (Array.replicate 16 (.int .u64 0)) 27), blk g2 (.cells (enc (lessL s (l.take k))) 27)]) (n := l.length) ⟨0, rfl, Nat.zero_le _, ⟨rfl, rfl, rfl, rfl, rfl, trivial⟩, rfl⟩ ?_
  rintro _ σ L ⟨k, rfl, hk, hs, rfl⟩
  refine Cd.has hs ?_
  refine Cd.seq ?_
  refine Cd.region ?_
  refine Ol.p lsi ?_
  refine Ol.nil ?_
  refine Cd.seq ?_
  refine Cd.cond rfl (fun h => ?_) (fun h => ?_)
  · have hlt : k < l.length := by simpa using h
    have hI : I64 l[k] := hi _ (List.getElem_mem hlt)
    refine Cd.skip ?_
    refine Cd.mid (fun σ' L' => Has σ' [(2, .pointer (some ⟨g2, 0, none⟩)), (4, .pointer (some ⟨g4, 0, none⟩)), (7, .slice A l.length c), (8, .int .i64 l.length), (9, .int .i64 k)] ∧ L' = [blk g4 (.cells (Array.replicate 16 (.int .u64 0)) 27), blk g2 (.cells (enc (lessL s (l.take (k + 1)))) 27)]) ?_ ?_
    · refine Cd.block ?_
      refine Cd.seq ?_
      refine Cd.region ?_
      refine Ol.p (ixn1 sl_L_int (Som.slc hl (by omega))) ?_
      refine Ol.p (ld one_int (Rd.slc hl (ints_get hlt))) ?_
      refine Ol.p asi ?_
      refine Ol.nil ?_
      refine Cd.seq ?_
      refine Cd.region ?_
      refine Ol.p mvi ?_
      refine Ol.p (cvw in_int in_uint) ?_
      refine Ol.p lsi ?_
      refine Ol.nil ?_
      refine Cd.cond rfl (fun h2 => ?_) (fun h2 => ?_)
      · rw [uint_lt hI] at h2
        obtain ⟨q, hq, hq2⟩ := okN_nat h2
        rw [hq]
        refine Cd.draw mixed 9 (fun _ => none) (fun _ => []) (by kernel_rfl) (fun _ _ h => by cases h) (fun u hu => ?_)
        refine Wk.p mvi ?_
        refine Wk.p (shrn (n := 6)) ?_
        refine Wk.p (ixl1 (ix := q / 64) ar_bits_Set) ?_
        refine Wk.p (ld one_uint64 (Rd.blk (i := 1) rfl (encF_get (i := q / 64) (by omega)))) ?_
        refine Wk.p mvi ?_
        refine Wk.p (andn (b := 63)) ?_
        refine Wk.p (shlu (a := 1) (n := q &&& 63) (hn := by rw [and63]; omega)) ?_
        refine Wk.p (anu (ha := wd_lt _ _) (hb := Nat.mod_lt _ (by decide))) ?_
        refine Wk.p (ixl1 (ix := q / 64) ar_bits_Set) ?_
        refine Wk.nil ?_
        refine Ol.s (sto (k := q / 64) (.inr sz_uint64) rfl rfl (i := 1) rfl (by rw [enc_size]; omega) rfl) ?_
        refine Ol.nil ?_
        refine ⟨⟨rfl, rfl, rfl, rfl, rfl, trivial⟩, ?_⟩
        rw [lessL_take hlt, hq, ← enc_cut hq2, and63, pow_mod64]
        rfl
      · rw [uint_lt hI] at h2
        refine Cd.skip ⟨⟨rfl, rfl, rfl, rfl, rfl, trivial⟩, ?_⟩
        rw [lessL_take hlt]
        simp [cut, h2]
    · rintro σ' _ ⟨hs', rfl⟩
      refine Cd.has hs' ?_
      refine Cd.region ?_
      refine Ol.p addi ?_
      refine Ol.p mvi ?_
      refine Ol.nil ?_
      refine ⟨l.length - (k + 1), by omega, k + 1, rfl, by omega, ⟨rfl, rfl, rfl, rfl, rfl, trivial⟩, rfl⟩
  · have hge : k = l.length := by
      have : ¬ (k : Int) < l.length := by simpa using h
      omega
    subst hge
    refine Cd.exit (id := 0) ?_
    refine Cd.seq ?_
    refine Cd.region ?_
    refine Ol.p (ldw ag_bits_Set (i := 1) rfl (enc_size _)) ?_
    refine Ol.s (stw sz_bits_Set (enc_size _) (encF_one _) (i := 0) rfl (by simp)) ?_
    refine Ol.nil ?_
    refine Cd.ret ?_
    refine ⟨_, retc rfl ag_bits_Set rfl (i := 0) rfl (enc_size _), [], .nil, ?_, rfl⟩
    rw [List.take_length]
end

section
theorem bits_Set_Or_ct {w : World} {s t : Nat} : Ct Tryd.prog 16 #[.agg (enc s), .agg (enc t)] w (Is (.agg (enc (s ||| t)))) := by
  refine Ct.mk Tryd.func16 rfl rfl ?_
  refine Cd.seq ?_
  refine Cd.region ?_
  refine Ol.x bxg ?_
  rintro _ _ ⟨g2, rfl, rfl⟩
  refine Ol.x bxg ?_
  rintro _ _ ⟨g3, rfl, rfl⟩
  refine Ol.x (alc zr_bits_Set) ?_
  rintro _ _ ⟨g4, rfl, rfl⟩
  refine Ol.nil ?_
  refine Cd.seq ?_
  refine Cd.seq ?_
  refine Cd.region ?_
  refine Ol.p mvi ?_
  refine Ol.nil ?_
  refine Cd.block ?_
  refine Cd.loop (fun m σ L => ∃ k, m = 16 - k ∧ k ≤ 16 ∧ Has σ [(2, .pointer (some ⟨g2, 0, none⟩)), (3, .pointer (some ⟨g3, 0, none⟩)), (4, .pointer (some ⟨g4, 0, none⟩)), (6, .int .i64 k)] ∧ L = [blk g4 (.cells (Array.replicate 16 (.int .u64 0)) 27), blk g3 (.cells (enc t) 27), blk g2 (.cells (encF (fun i => if i < k then wd s i ||| wd t i else wd s i)) 27)]) (n := 16) ⟨0, rfl, Nat.zero_le _, ⟨rfl, rfl, rfl, rfl, trivial⟩, rfl⟩ ?_
  rintro _ σ L ⟨k, rfl, hk, hs, rfl⟩
  refine Cd.has hs ?_
  refine Cd.seq ?_
  refine Cd.region ?_
  refine Ol.p lsi ?_
  refine Ol.nil ?_
  refine Cd.seq ?_
  refine Cd.cond rfl (fun h => ?_) (fun h => ?_)
  · have hlt : k < 16 := by simp at h; omega
    refine Cd.skip ?_
    refine Cd.seq ?_
    refine Cd.block ?_
    refine Cd.seq ?_
    refine Cd.region ?_
    refine Ol.p mvi ?_
    refine Ol.p asi ?_
    refine Ol.nil ?_
    refine Cd.draw mixed 8 (fun _ => none) (fun _ => []) (by kernel_rfl) (fun _ _ h => by cases h) (fun u hu => ?_)
    refine Wk.p mvi ?_
    refine Wk.p (ixl1 (ix := k) ar_bits_Set) ?_
    refine Wk.p (ld one_uint64 (Rd.blk (i := 2) rfl (encF_get hlt))) ?_
    refine Wk.p mvi ?_
    refine Wk.p (ixl1 (ix := k) ar_bits_Set) ?_
    refine Wk.p (ld one_uint64 (Rd.blk (i := 1) rfl (encF_get hlt))) ?_
    refine Wk.p (oru (a := if k < k then _ else wd s k) (ha := by rw [if_neg (Nat.lt_irrefl k)]; exact wd_lt _ _) (hb := wd_lt _ _)) ?_
    refine Wk.p (ixl1 (ix := k) ar_bits_Set) ?_
    refine Wk.nil ?_
    refine Ol.s (sto (k := k) (.inr sz_uint64) rfl rfl (i := 2) rfl (by rw [encF_size]; exact hlt) rfl) ?_
    refine Ol.nil ?_
    refine Cd.region ?_
    refine Ol.p addi ?_
    refine Ol.p mvi ?_
    refine Ol.nil ?_
    refine ⟨16 - (k + 1), by omega, k + 1, rfl, by omega, ⟨rfl, rfl, rfl, rfl, trivial⟩, ?_⟩
    have e : (encF (fun i => if i < k then wd s i ||| wd t i else wd s i)).setIfInBounds k (.int .u64 (((if k < k then wd s k ||| wd t k else wd s k) ||| wd t k : Nat) : Int)) = encF (fun i => if i < k + 1 then wd s i ||| wd t i else wd s i) := by
      rw [encF_set]
      apply encF_congr
      intro i _
      simp only [if_neg (Nat.lt_irrefl k)]
      by_cases h1 : i = k
      · subst h1; simp
      · by_cases h2 : i < k
        · rw [if_neg h1, if_pos h2, if_pos (by omega)]
        · rw [if_neg h1, if_neg h2, if_neg (by omega)]
    rw [← e]
    rfl
  · have hge : k = 16 := by simp at h; omega
    subst hge
    have e : encF (fun i => if i < 16 then wd s i ||| wd t i else wd s i) = enc (s ||| t) := encF_congr fun i hi => by rw [if_pos hi, wd_or]
    rw [e]
    refine Cd.exit (id := 0) ?_
    refine Cd.seq ?_
    refine Cd.region ?_
    refine Ol.p (ldw ag_bits_Set (i := 2) rfl (enc_size _)) ?_
    refine Ol.s (stw sz_bits_Set (enc_size _) (encF_one _) (i := 0) rfl (by simp)) ?_
    refine Ol.nil ?_
    refine Cd.ret ?_
    exact ⟨_, retc rfl ag_bits_Set rfl (i := 0) rfl (enc_size _), [], .nil, rfl, rfl⟩
end

section
theorem bits_Set_And_ct {w : World} {s t : Nat} : Ct Tryd.prog 19 #[.agg (enc s), .agg (enc t)] w (Is (.agg (enc (s &&& t)))) := by
  refine Ct.mk Tryd.func19 rfl rfl ?_
  refine Cd.seq ?_
  refine Cd.region ?_
  refine Ol.x bxg ?_
  rintro _ _ ⟨g2, rfl, rfl⟩
  refine Ol.x bxg ?_
  rintro _ _ ⟨g3, rfl, rfl⟩
  refine Ol.x (alc zr_bits_Set) ?_
  rintro _ _ ⟨g4, rfl, rfl⟩
  refine Ol.nil ?_
  refine Cd.seq ?_
  refine Cd.seq ?_
  refine Cd.region ?_
  refine Ol.p mvi ?_
  refine Ol.nil ?_
  refine Cd.block ?_
  refine Cd.loop (fun m σ L => ∃ k, m = 16 - k ∧ k ≤ 16 ∧ Has σ [(2, .pointer (some ⟨g2, 0, none⟩)), (3, .pointer (some ⟨g3, 0, none⟩)), (4, .pointer (some ⟨g4, 0, none⟩)), (6, .int .i64 k)] ∧ L = [blk g4 (.cells (Array.replicate 16 (.int .u64 0)) 27), blk g3 (.cells (enc t) 27), blk g2 (.cells (encF (fun i => if i < k then wd s i &&& wd t i else wd s i)) 27)]) (n := 16) ⟨0, rfl, Nat.zero_le _, ⟨rfl, rfl, rfl, rfl, trivial⟩, rfl⟩ ?_
  rintro _ σ L ⟨k, rfl, hk, hs, rfl⟩
  refine Cd.has hs ?_
  refine Cd.seq ?_
  refine Cd.region ?_
  refine Ol.p lsi ?_
  refine Ol.nil ?_
  refine Cd.seq ?_
  refine Cd.cond rfl (fun h => ?_) (fun h => ?_)
  · have hlt : k < 16 := by simp at h; omega
    refine Cd.skip ?_
    refine Cd.seq ?_
    refine Cd.block ?_
    refine Cd.seq ?_
    refine Cd.region ?_
    refine Ol.p mvi ?_
    refine Ol.p asi ?_
    refine Ol.nil ?_
    refine Cd.draw mixed 8 (fun _ => none) (fun _ => []) (by kernel_rfl) (fun _ _ h => by cases h) (fun u hu => ?_)
    refine Wk.p mvi ?_
    refine Wk.p (ixl1 (ix := k) ar_bits_Set) ?_
    refine Wk.p (ld one_uint64 (Rd.blk (i := 2) rfl (encF_get hlt))) ?_
    refine Wk.p mvi ?_
    refine Wk.p (ixl1 (ix := k) ar_bits_Set) ?_
    refine Wk.p (ld one_uint64 (Rd.blk (i := 1) rfl (encF_get hlt))) ?_
    refine Wk.p (andu (a := if k < k then _ else wd s k) (ha := by rw [if_neg (Nat.lt_irrefl k)]; exact wd_lt _ _) (hb := wd_lt _ _)) ?_
    refine Wk.p (ixl1 (ix := k) ar_bits_Set) ?_
    refine Wk.nil ?_
    refine Ol.s (sto (k := k) (.inr sz_uint64) rfl rfl (i := 2) rfl (by rw [encF_size]; exact hlt) rfl) ?_
    refine Ol.nil ?_
    refine Cd.region ?_
    refine Ol.p addi ?_
    refine Ol.p mvi ?_
    refine Ol.nil ?_
    refine ⟨16 - (k + 1), by omega, k + 1, rfl, by omega, ⟨rfl, rfl, rfl, rfl, trivial⟩, ?_⟩
    have e : (encF (fun i => if i < k then wd s i &&& wd t i else wd s i)).setIfInBounds k (.int .u64 (((if k < k then wd s k &&& wd t k else wd s k) &&& wd t k : Nat) : Int)) = encF (fun i => if i < k + 1 then wd s i &&& wd t i else wd s i) := by
      rw [encF_set]
      apply encF_congr
      intro i _
      simp only [if_neg (Nat.lt_irrefl k)]
      by_cases h1 : i = k
      · subst h1; simp
      · by_cases h2 : i < k
        · rw [if_neg h1, if_pos h2, if_pos (by omega)]
        · rw [if_neg h1, if_neg h2, if_neg (by omega)]
    rw [← e]
    rfl
  · have hge : k = 16 := by simp at h; omega
    subst hge
    have e : encF (fun i => if i < 16 then wd s i &&& wd t i else wd s i) = enc (s &&& t) := encF_congr fun i hi => by rw [if_pos hi, wd_and]
    rw [e]
    refine Cd.exit (id := 0) ?_
    refine Cd.seq ?_
    refine Cd.region ?_
    refine Ol.p (ldw ag_bits_Set (i := 2) rfl (enc_size _)) ?_
    refine Ol.s (stw sz_bits_Set (enc_size _) (encF_one _) (i := 0) rfl (by simp)) ?_
    refine Ol.nil ?_
    refine Cd.ret ?_
    exact ⟨_, retc rfl ag_bits_Set rfl (i := 0) rfl (enc_size _), [], .nil, rfl, rfl⟩
end

section
theorem bits_Set_Less_ct {w : World} {s t : Nat} : Ct Tryd.prog 15 #[.agg (enc s), .agg (enc t)] w (Is (.agg (enc (less s t)))) := by
  refine Ct.mk Tryd.func15 rfl rfl ?_
  refine Cd.seq ?_
  refine Cd.region ?_
  refine Ol.x bxg ?_
  rintro _ _ ⟨g2, rfl, rfl⟩
  refine Ol.x bxg ?_
  rintro _ _ ⟨g3, rfl, rfl⟩
  refine Ol.x (alc zr_bits_Set) ?_
  rintro _ _ ⟨g4, rfl, rfl⟩
  refine Ol.nil ?_
  refine Cd.seq ?_
  refine Cd.seq ?_
  refine Cd.region ?_
  refine Ol.p mvi ?_
  refine Ol.nil ?_
  refine Cd.block ?_
  refine Cd.loop (fun m σ L => ∃ k, m = 16 - k ∧ k ≤ 16 ∧ Has σ [(2, .pointer (some ⟨g2, 0, none⟩)), (3, .pointer (some ⟨g3, 0, none⟩)), (4, .pointer (some ⟨g4, 0, none⟩)), (6, .int .i64 k)] ∧ L = [blk g4 (.cells (Array.replicate 16 (.int .u64 0)) 27), blk g3 (.cells (enc t) 27), blk g2 (.cells (encF (fun i => if i < k then less (wd s i) (wd t i) else wd s i)) 27)]) (n := 16) ⟨0, rfl, Nat.zero_le _, ⟨rfl, rfl, rfl, rfl, trivial⟩, rfl⟩ ?_
  rintro _ σ L ⟨k, rfl, hk, hs, rfl⟩
  refine Cd.has hs ?_
  refine Cd.seq ?_
  refine Cd.region ?_
  refine Ol.p lsi ?_
  refine Ol.nil ?_
  refine Cd.seq ?_
  refine Cd.cond rfl (fun h => ?_) (fun h => ?_)
  · have hlt : k < 16 := by simp at h; omega
    refine Cd.skip ?_
    refine Cd.seq ?_
    refine Cd.block ?_
    refine Cd.seq ?_
    refine Cd.region ?_
    refine Ol.p mvi ?_
    refine Ol.p asi ?_
    refine Ol.nil ?_
    refine Cd.draw mixed 8 (fun _ => none) (fun _ => []) (by kernel_rfl) (fun _ _ h => by cases h) (fun u hu => ?_)
    refine Wk.p mvi ?_
    refine Wk.p (ixl1 (ix := k) ar_bits_Set) ?_
    refine Wk.p (ld one_uint64 (Rd.blk (i := 2) rfl (encF_get hlt))) ?_
    refine Wk.p mvi ?_
    refine Wk.p (ixl1 (ix := k) ar_bits_Set) ?_
    refine Wk.p (ld one_uint64 (Rd.blk (i := 1) rfl (encF_get hlt))) ?_
    refine Wk.p (anu (a := if k < k then _ else wd s k) (ha := by rw [if_neg (Nat.lt_irrefl k)]; exact wd_lt _ _) (hb := wd_lt _ _)) ?_
    refine Wk.p (ixl1 (ix := k) ar_bits_Set) ?_
    refine Wk.nil ?_
    refine Ol.s (sto (k := k) (.inr sz_uint64) rfl rfl (i := 2) rfl (by rw [encF_size]; exact hlt) rfl) ?_
    refine Ol.nil ?_
    refine Cd.region ?_
    refine Ol.p addi ?_
    refine Ol.p mvi ?_
    refine Ol.nil ?_
    refine ⟨16 - (k + 1), by omega, k + 1, rfl, by omega, ⟨rfl, rfl, rfl, rfl, trivial⟩, ?_⟩
    have e : (encF (fun i => if i < k then less (wd s i) (wd t i) else wd s i)).setIfInBounds k (.int .u64 ((less (if k < k then less (wd s k) (wd t k) else wd s k) (wd t k) : Nat) : Int)) = encF (fun i => if i < k + 1 then less (wd s i) (wd t i) else wd s i) := by
      rw [encF_set]
      apply encF_congr
      intro i _
      simp only [if_neg (Nat.lt_irrefl k)]
      by_cases h1 : i = k
      · subst h1; simp
      · by_cases h2 : i < k
        · rw [if_neg h1, if_pos h2, if_pos (by omega)]
        · rw [if_neg h1, if_neg h2, if_neg (by omega)]
    rw [← e]
    rfl
  · have hge : k = 16 := by simp at h; omega
    subst hge
    have e : encF (fun i => if i < 16 then less (wd s i) (wd t i) else wd s i) = enc (less s t) := encF_congr fun i hi => by rw [if_pos hi, wd_less]
    rw [e]
    refine Cd.exit (id := 0) ?_
    refine Cd.seq ?_
    refine Cd.region ?_
    refine Ol.p (ldw ag_bits_Set (i := 2) rfl (enc_size _)) ?_
    refine Ol.s (stw sz_bits_Set (enc_size _) (encF_one _) (i := 0) rfl (by simp)) ?_
    refine Ol.nil ?_
    refine Cd.ret ?_
    exact ⟨_, retc rfl ag_bits_Set rfl (i := 0) rfl (enc_size _), [], .nil, rfl, rfl⟩
end

theorem shr_one (w j : Nat) : decide ((((w / 2 ^ j) &&& 1 : Nat) : Int) = 1) = w.testBit j := by
  rw [Nat.testBit_eq_decide_div_mod_eq, Nat.and_one_is_mod]
  apply decide_eq_decide.2
  omega
theorem wd_bit (s q : Nat) : (wd s (q / 64)).testBit (q % 64) = s.testBit q := by
  rw [testBit_wd, Nat.div_add_mod]
  have : q % 64 < 64 := Nat.mod_lt _ (by decide)
  simp [this]
section
theorem bits_Set_Has_ct {w : World} {s : Nat} {n : Int} (hn : I64 n) : Ct Tryd.prog 18 #[.agg (enc s), .int .i64 n] w (Is (.bool (memb s n))) := by
  refine Ct.mk Tryd.func18 rfl rfl ?_
  refine Cd.seq ?_
  refine Cd.region ?_
  refine Ol.x bxg ?_
  rintro _ _ ⟨g2, rfl, rfl⟩
  refine Ol.p asb ?_
  refine Ol.nil ?_
  refine Cd.seq ?_
  cases hok : okN n with
  | true =>
    obtain ⟨q, hq, hq2⟩ := okN_nat hok
    have hd : decide (IntKind.u64.wrap (q : Int) < 1024) = true := by rw [uint_lt (by unfold I64; omega), ← hq]; exact hok
    subst hq
    refine Cd.region ?_
    refine Ol.p mvi ?_
    refine Ol.p (cvw in_int in_uint) ?_
    refine Ol.p lsi ?_
    refine Ol.p mvb ?_
    refine Ol.gp hd mvi ?_
    refine Ol.gp hd (shrn (n := 6)) ?_
    refine Ol.gp hd (ixl1 (ix := q / 64) ar_bits_Set) ?_
    refine Ol.gp hd (ld one_uint64 (Rd.blk (i := 0) rfl (encF_get (i := q / 64) (by omega)))) ?_
    refine Ol.gp hd mvi ?_
    refine Ol.gp hd (andn (b := 63)) ?_
    refine Ol.gp hd (shru (n := q &&& 63) (hn := by rw [and63]; omega)) ?_
    refine Ol.gp hd (andu (b := 1) (ha := Nat.lt_of_le_of_lt (Nat.div_le_self _ _) (wd_lt _ _))) ?_
    refine Ol.gp hd eqi ?_
    refine Ol.p (pkTb hd) ?_
    refine Ol.p asb ?_
    refine Ol.nil ?_
    refine Cd.ret ⟨.bool _, ret1 rfl rfl, [], .nil, ?_, rfl⟩
    rw [shr_one, and63, wd_bit]
    simp [memb, hok]
  | false =>
    have hd : decide (IntKind.u64.wrap n < 1024) = false := by rw [uint_lt hn]; exact hok
    refine Cd.region ?_
    refine Ol.p mvi ?_
    refine Ol.p (cvw in_int in_uint) ?_
    refine Ol.p lsi ?_
    refine Ol.p mvb ?_
    refine Ol.gn hd ?_
    refine Ol.gn hd ?_
    refine Ol.gn hd ?_
    refine Ol.gn hd ?_
    refine Ol.gn hd ?_
    refine Ol.gn hd ?_
    refine Ol.gn hd ?_
    refine Ol.gn hd ?_
    refine Ol.gn hd ?_
    refine Ol.p (pkFb hd) ?_
    refine Ol.p asb ?_
    refine Ol.nil ?_
    refine Cd.ret ⟨.bool _, ret1 rfl rfl, [], .nil, ?_, rfl⟩
    simp [memb, hok]
end
section
theorem bits_Of_ct {w : World} {A : Option Addr} {c : Nat} {l : List Int} (hl : Reads w w.heap.size 1 A l.length (ints l)) (hi : ∀ n ∈ l, I64 n) (hb : l.length < 2 ^ 62) : Ct Tryd.prog 12 #[.slice A l.length c] w (Is (.agg (enc (ofL l)))) := by
  refine Ct.mk Tryd.func12 rfl rfl ?_
  refine Cd.seq ?_
  refine Cd.region ?_
  refine Ol.x (alc zr_bits_Set) ?_
  rintro _ _ ⟨g2, rfl, rfl⟩
  refine Ol.nil ?_
  refine Cd.seq ?_
  refine Cd.region ?_
  refine Ol.p (bda ar_bits_Set zr_bits_Set) ?_
  refine Ol.p mvs ?_
  refine Ol.s (cl (v := .agg (enc (ofL l))) en_bits_Set_With (fun M w' hh => by have h := bits_Set_With_ct (c := c) (s := 0) (hl.now hh) hi hb; rw [enc0] at h; exact h)) ?_
  refine Ol.s (stw sz_bits_Set (enc_size _) (encF_one _) (i := 0) rfl rfl) ?_
  refine Ol.nil ?_
  refine Cd.ret ?_
  exact ⟨_, retc rfl ag_bits_Set rfl (i := 0) rfl (enc_size _), [], .nil, rfl, rfl⟩
end
end Go.Proofs.YtbcnejobnmljlaaDoor

/- The least number of a word, the numbers of a set in order, how many there are. Plain Lean. -/
namespace Go.Proofs.YtbcnejobnmljlaaDoor
set_option linter.unusedVariables false
open Go Go.RowKit

def tzTab : List Nat := [0, 1, 56, 2, 57, 49, 28, 3, 61, 58, 42, 50, 38, 29, 17, 4, 62, 47, 59, 36, 45, 43, 51, 22, 53, 39, 33, 30, 24, 18, 12, 5, 63, 55, 48, 27, 60, 41, 37, 16, 46, 35, 44, 21, 52, 32, 23, 11, 54, 26, 40, 15, 34, 20, 31, 10, 25, 14, 19, 9, 13, 8, 7, 6]
/-- j is the least number of w. -/
def Least (w j : Nat) : Prop := w.testBit j = true ∧ ∀ i, i < j → w.testBit i = false
theorem least_ex {w : Nat} (h : w ≠ 0) : ∃ j, Least w j := by
  obtain ⟨i, hi⟩ := Nat.exists_testBit_of_ne_zero h
  induction i using Nat.strongRecOn with
  | _ i ih =>
    by_cases hx : ∃ k, k < i ∧ w.testBit k = true
    · obtain ⟨k, hk, hk2⟩ := hx
      exact ih k hk hk2
    · refine ⟨i, hi, fun k hk => ?_⟩
      cases hb : w.testBit k with
      | false => rfl
      | true => exact absurd ⟨k, hk, hb⟩ hx
theorem Least.lt {w j n : Nat} (h : Least w j) (hw : w < 2 ^ n) : j < n := by
  rcases Nat.lt_or_ge j n with hj | hj
  · exact hj
  · have := Nat.testBit_lt_two_pow (Nat.lt_of_lt_of_le hw (Nat.pow_le_pow_right (by decide) hj))
    have h1 := h.1
    rw [this] at h1; cases h1
theorem Least.form {w j : Nat} (h : Least w j) : ∃ q, w = 2 ^ j * (2 * q + 1) := by
  have h0 : w % 2 ^ j = 0 := by
    apply Nat.eq_of_testBit_eq
    intro i
    rw [Nat.testBit_mod_two_pow, Nat.zero_testBit]
    by_cases hi : i < j
    · simp [hi, h.2 i hi]
    · simp [hi]
  have h1 : (w / 2 ^ j) % 2 = 1 := by
    have := h.1
    rw [Nat.testBit_eq_decide_div_mod_eq] at this
    exact of_decide_eq_true this
  refine ⟨w / 2 ^ j / 2, ?_⟩
  have h2 := Nat.div_add_mod w (2 ^ j)
  have h3 := Nat.div_add_mod (w / 2 ^ j) 2
  rw [h0, Nat.add_zero] at h2
  rw [h1] at h3
  rw [h3, h2]
theorem testBit_form {j q r i : Nat} (hr : r < 2 ^ j) : (2 ^ j * q + r).testBit i = if i < j then r.testBit i else q.testBit (i - j) := Nat.testBit_two_pow_mul_add q hr i
/-- The word, and it less 1: without its least number. -/
theorem and_pred {w j : Nat} (h : Least w j) : w &&& (w - 1) = less w (2 ^ j) := by
  obtain ⟨q, hq⟩ := h.form
  have hp : 0 < 2 ^ j := Nat.pow_pos (by decide)
  have e : w - 1 = 2 ^ j * (2 * q) + (2 ^ j - 1) := by
    rw [hq, Nat.mul_add, Nat.mul_one]; omega
  apply Nat.eq_of_testBit_eq
  intro i
  rw [Nat.testBit_and, testBit_less, Nat.testBit_two_pow, e, testBit_form (by omega)]
  have hw : w.testBit i = if i < j then false else (2 * q + 1).testBit (i - j) := by
    rw [hq]
    have := testBit_form (j := j) (q := 2 * q + 1) (r := 0) (i := i) hp
    simpa using this
  rw [hw]
  by_cases hi : i < j
  · simp [hi]
  · rw [if_neg hi, if_neg hi]
    by_cases he : j = i
    · subst he; simp
    · have hpos : 0 < i - j := by omega
      obtain ⟨k, hk⟩ : ∃ k, i - j = k + 1 := ⟨i - j - 1, by omega⟩
      have e1 : (2 * q + 1).testBit (k + 1) = q.testBit k := by rw [Nat.testBit_succ]; congr 1; omega
      have e2 : (2 * q).testBit (k + 1) = q.testBit k := by rw [Nat.testBit_succ]; congr 1; omega
      rw [hk, e1, e2]
      simp [he]
/-- The word, and its opposite: its least number alone. -/
theorem and_opp {w j : Nat} (h : Least w j) (hw : w < 2 ^ 64) : w &&& (2 ^ 64 - w) = 2 ^ j := by
  have hj := h.lt hw
  obtain ⟨q, hq⟩ := h.form
  have hp : 0 < 2 ^ j := Nat.pow_pos (by decide)
  have e64 : (2 : Nat) ^ 64 = 2 ^ j * (2 * 2 ^ (63 - j)) := by
    rw [← Nat.pow_succ', ← Nat.pow_add]; congr 1; omega
  have hlt : 2 * q + 1 < 2 * 2 ^ (63 - j) := by
    have h1 : 2 ^ j * (2 * q + 1) < 2 ^ j * (2 * 2 ^ (63 - j)) := by rw [← e64, ← hq]; exact hw
    exact Nat.lt_of_mul_lt_mul_left h1
  have e : 2 ^ 64 - w = 2 ^ j * (2 * (2 ^ (63 - j) - (q + 1)) + 1) := by
    rw [e64, hq, ← Nat.mul_sub]
    congr 1
    omega
  have hq' : q < 2 ^ (63 - j) := by omega
  apply Nat.eq_of_testBit_eq
  intro i
  have ht : ∀ m, (2 ^ j * m).testBit i = if i < j then false else m.testBit (i - j) := fun m => by
    have := testBit_form (j := j) (q := m) (r := 0) (i := i) hp
    simpa using this
  rw [Nat.testBit_and, Nat.testBit_two_pow, e, hq, ht, ht]
  by_cases hi : i < j
  · simp [hi]; omega
  · rw [if_neg hi, if_neg hi]
    by_cases he : j = i
    · subst he; simp
    · obtain ⟨k, hk⟩ : ∃ k, i - j = k + 1 := ⟨i - j - 1, by omega⟩
      have e1 : ∀ m, (2 * m + 1).testBit (k + 1) = m.testBit k := fun m => by rw [Nat.testBit_succ]; congr 1; omega
      rw [hk, e1, e1, Nat.testBit_two_pow_sub_succ hq']
      simp [he]
      cases q.testBit k <;> simp
theorem tz_tab : ∀ j, j < 64 → tzTab[(2 ^ j * 285870213051353865 % 2 ^ 64 / 2 ^ 58)]? = some j := by decide
theorem tz_lt (j : Nat) : 2 ^ j * 285870213051353865 % 2 ^ 64 / 2 ^ 58 < 64 := by
  have : 2 ^ j * 285870213051353865 % 2 ^ 64 < 2 ^ 64 := Nat.mod_lt _ (by decide)
  omega

/-! ### The numbers in order -/
def upto (s n : Nat) : List Nat := (List.range n).filter s.testBit
def listS (s : Nat) : List Nat := upto s 1024
theorem upto_zero (s : Nat) : upto s 0 = [] := rfl
theorem upto_succ (s n : Nat) : upto s (n + 1) = upto s n ++ (if s.testBit n then [n] else []) := by
  unfold upto
  rw [List.range_succ, List.filter_append]
  congr 1
  cases h : s.testBit n <;> simp [h]
theorem upto_skip {s n : Nat} : ∀ {m : Nat}, n ≤ m → (∀ i, n ≤ i → i < m → s.testBit i = false) → upto s m = upto s n
  | 0, h, _ => by have : n = 0 := by omega
                  rw [this]
  | m + 1, h, hz => by
    by_cases he : n = m + 1
    · rw [he]
    · rw [upto_succ, hz m (by omega) (by omega), upto_skip (m := m) (by omega) (fun i h1 h2 => hz i h1 (by omega))]
      simp
theorem upto_prefix (s : Nat) {n m : Nat} (h : n ≤ m) : ∃ l, upto s m = upto s n ++ l := by
  induction m with
  | zero => exact ⟨[], by have : n = 0 := by omega
                          rw [this]; simp⟩
  | succ m ih =>
    by_cases he : n = m + 1
    · exact ⟨[], by rw [he]; simp⟩
    · obtain ⟨l, hl⟩ := ih (by omega)
      exact ⟨l ++ (if s.testBit m then [m] else []), by rw [upto_succ, hl]; simp⟩
theorem listS_get {s n : Nat} (h : s.testBit n = true) (hn : n < 1024) : (listS s)[(upto s n).length]? = some n := by
  obtain ⟨l, hl⟩ := upto_prefix s (n := n + 1) (m := 1024) (by omega)
  unfold listS
  rw [hl, upto_succ, h]
  simp
theorem mem_upto {s n i : Nat} : i ∈ upto s n ↔ i < n ∧ s.testBit i = true := by simp [upto, List.mem_filter]
theorem mem_listS {s i : Nat} : i ∈ listS s ↔ i < 1024 ∧ s.testBit i = true := mem_upto
theorem upto_len_le (s n : Nat) : (upto s n).length ≤ n := by
  unfold upto
  exact Nat.le_trans (List.length_filter_le _ _) (by simp)
theorem listS_len_le (s : Nat) : (listS s).length ≤ 1024 := upto_len_le s 1024
theorem listS_sorted (s : Nat) : (listS s).Pairwise (· < ·) := List.Pairwise.filter _ List.pairwise_lt_range
/-- A word of which all numbers below p are taken away. -/
def rem (w p : Nat) : Nat := w / 2 ^ p * 2 ^ p
theorem testBit_rem (w p i : Nat) : (rem w p).testBit i = (decide (p ≤ i) && w.testBit i) := by
  unfold rem
  rw [Nat.mul_comm]
  have := testBit_form (j := p) (q := w / 2 ^ p) (r := 0) (i := i) (Nat.pow_pos (by decide))
  rw [Nat.add_zero] at this
  rw [this, Nat.testBit_div_two_pow]
  by_cases h : i < p
  · have : ¬ p ≤ i := by omega
    simp [h, this]
  · have : p ≤ i := by omega
    simp [h, this]
theorem rem_zero (w : Nat) : rem w 0 = w := by simp [rem]
theorem rem_lt {w p : Nat} (h : w < 2 ^ 64) : rem w p < 2 ^ 64 := Nat.lt_of_le_of_lt (Nat.div_mul_le_self _ _) h
theorem rem_less {w p j : Nat} (h : Least (rem w p) j) : less (rem w p) (2 ^ j) = rem w (j + 1) := by
  apply Nat.eq_of_testBit_eq
  intro i
  rw [testBit_less, testBit_rem, testBit_rem, Nat.testBit_two_pow]
  rcases Nat.lt_trichotomy i j with hi | hi | hi
  · have h1 := h.2 i hi
    rw [testBit_rem] at h1
    have h3 : ¬ j + 1 ≤ i := by omega
    simp [h1, h3]
  · subst hi
    have h3 : ¬ i + 1 ≤ i := by omega
    simp [h3]
  · have h1 := h.1
    rw [testBit_rem] at h1
    simp only [Bool.and_eq_true, decide_eq_true_eq] at h1
    have h4 : p ≤ i := by omega
    have h5 : j + 1 ≤ i := by omega
    have h6 : ¬ j = i := by omega
    simp [h4, h5, h6]
end Go.Proofs.YtbcnejobnmljlaaDoor

/- The package bits: what goes through a set's numbers, walked. -/
namespace Go.Proofs.YtbcnejobnmljlaaDoor
set_option linter.unusedVariables false
open Go Go.RowKit
set_option maxRecDepth 100000

/-- The table of math/bits lies as its text lays it. -/
def Tabs (w : World) (B : Nat) : Prop := 0 < B ∧ ∀ k v : Nat, tzTab[k]? = some v → w.cell? ⟨0, k, none⟩ = some (.int .u8 (v : Int))
theorem Tabs.now {w0 w : World} {B : Nat} {L : List Res} (h : Tabs w0 B) (hh : Hp w0 B L w) : Tabs w w.heap.size := ⟨Nat.lt_of_lt_of_le h.1 hh.le, fun k v hk => (hh.below.cell (p := ⟨0, k, none⟩) h.1).trans (h.2 k v hk)⟩
theorem least_pos {w j : Nat} (h : Least w j) : 0 < w := by
  rcases Nat.eq_zero_or_pos w with h0 | h0
  · have := h.1; rw [h0, Nat.zero_testBit] at this; cases this
  · exact h0
section
theorem math_bits_TrailingZeros64_ct {w : World} {x j : Nat} (hT : Tabs w w.heap.size) (hx : x < 2 ^ 64) (hj : Least x j) : Ct Tryd.prog 78 #[.int .u64 (x : Int)] w (Is (.int .i64 (j : Int))) := by
  have hj64 := hj.lt hx
  have hpos := least_pos hj
  have htab : tzTab[(x &&& (2 ^ 64 - x)) * 285870213051353865 % 2 ^ 64 / 2 ^ 58]? = some j := by rw [and_opp hj hx]; exact tz_tab j hj64
  refine Ct.mk Tryd.func78 rfl rfl ?_
  refine Cd.seq ?_
  refine Cd.region ?_
  refine Ol.p asi ?_
  refine Ol.nil ?_
  refine Cd.seq ?_
  refine Cd.seq ?_
  refine Cd.region ?_
  refine Ol.p mvi ?_
  refine Ol.p eqi ?_
  refine Ol.nil ?_
  refine Cd.cond rfl (fun h => ?_) (fun h => ?_)
  · simp at h; omega
  refine Cd.skip ?_
  refine Cd.seq ?_
  refine Cd.region ?_
  refine Ol.p mvi ?_
  refine Ol.p mvi ?_
  refine Ol.p ngu ?_
  refine Ol.p (andu (b := 2 ^ 64 - x)) ?_
  refine Ol.p (mlu (a := x &&& (2 ^ 64 - x)) (b := 285870213051353865)) ?_
  refine Ol.p (shru (n := 58)) ?_
  refine Ol.p (ixl1 (ix := (x &&& (2 ^ 64 - x)) * 285870213051353865 % 2 ^ 64 / 2 ^ 58) ar_A64_uint8 (h := by rw [and_opp hj hx]; exact tz_lt j)) ?_
  refine Ol.p (ld one_uint8 (Rd.inp hT.1 (hT.2 _ j htab))) ?_
  refine Ol.p (cvn in_uint8 in_int) ?_
  refine Ol.p asi ?_
  refine Ol.nil ?_
  refine Cd.ret ⟨.int .i64 _, ret1 rfl rfl, [], .nil, rfl, rfl⟩
end
section
def oc1 (x : Nat) : Nat := ((x / 2 ^ 1 &&& 6148914691236517205) + (x &&& 6148914691236517205)) % 2 ^ 64
def oc2 (x : Nat) : Nat := ((x / 2 ^ 2 &&& 3689348814741910323) + (x &&& 3689348814741910323)) % 2 ^ 64
def oc3 (x : Nat) : Nat := (x / 2 ^ 4 + x) % 2 ^ 64 &&& 1085102592571150095
def oc4 (x : Nat) : Nat := (x + x / 2 ^ 8) % 2 ^ 64
def oc5 (x : Nat) : Nat := (x + x / 2 ^ 16) % 2 ^ 64
def oc6 (x : Nat) : Nat := (x + x / 2 ^ 32) % 2 ^ 64
def ocN (x : Nat) : Nat := oc6 (oc5 (oc4 (oc3 (oc2 (oc1 x))))) % 128
theorem and127 (k : Nat) : k &&& 127 = k % 128 := Nat.and_two_pow_sub_one_eq_mod k 7
theorem oc_lt (a : Nat) : a % 2 ^ 64 < 2 ^ 64 := Nat.mod_lt _ (by decide)
theorem math_bits_OnesCount64_ct {w : World} {x : Nat} (hx : x < 2 ^ 64) : Ct Tryd.prog 49 #[.int .u64 (x : Int)] w (Is (.int .i64 (ocN x : Int))) := by
  refine Ct.mk Tryd.func49 rfl rfl ?_
  refine Cd.seq ?_
  refine Cd.region ?_
  refine Ol.p asi ?_
  refine Ol.nil ?_
  refine Cd.seq ?_
  refine Cd.region ?_
  refine Ol.p mvi ?_
  refine Ol.p (shru (n := 1)) ?_
  refine Ol.p (andu (b := 6148914691236517205)) ?_
  refine Ol.p mvi ?_
  refine Ol.p (andu (b := 6148914691236517205)) ?_
  refine Ol.p adu ?_
  refine Ol.p asi ?_
  refine Ol.nil ?_
  refine Cd.seq ?_
  refine Cd.region ?_
  refine Ol.p mvi ?_
  refine Ol.p (shru (a := oc1 x) (n := 2)) ?_
  refine Ol.p (andu (a := oc1 x / 2 ^ 2) (b := 3689348814741910323) (ha := by have : oc1 x < 2 ^ 64 := oc_lt _; omega)) ?_
  refine Ol.p mvi ?_
  refine Ol.p (andu (a := oc1 x) (b := 3689348814741910323) (ha := oc_lt _)) ?_
  refine Ol.p adu ?_
  refine Ol.p asi ?_
  refine Ol.nil ?_
  refine Cd.seq ?_
  refine Cd.region ?_
  refine Ol.p mvi ?_
  refine Ol.p (shru (a := oc2 (oc1 x)) (n := 4)) ?_
  refine Ol.p mvi ?_
  refine Ol.p (adu (a := oc2 (oc1 x) / 2 ^ 4) (b := oc2 (oc1 x))) ?_
  refine Ol.p (andu (b := 1085102592571150095) (ha := oc_lt _)) ?_
  refine Ol.p asi ?_
  refine Ol.nil ?_
  refine Cd.seq ?_
  refine Cd.region ?_
  refine Ol.p mvi ?_
  refine Ol.p mvi ?_
  refine Ol.p (shru (a := oc3 (oc2 (oc1 x))) (n := 8)) ?_
  refine Ol.p (adu (a := oc3 (oc2 (oc1 x))) (b := oc3 (oc2 (oc1 x)) / 2 ^ 8)) ?_
  refine Ol.p asi ?_
  refine Ol.nil ?_
  refine Cd.seq ?_
  refine Cd.region ?_
  refine Ol.p mvi ?_
  refine Ol.p mvi ?_
  refine Ol.p (shru (a := oc4 (oc3 (oc2 (oc1 x)))) (n := 16)) ?_
  refine Ol.p (adu (a := oc4 (oc3 (oc2 (oc1 x)))) (b := oc4 (oc3 (oc2 (oc1 x))) / 2 ^ 16)) ?_
  refine Ol.p asi ?_
  refine Ol.nil ?_
  refine Cd.seq ?_
  refine Cd.region ?_
  refine Ol.p mvi ?_
  refine Ol.p mvi ?_
  refine Ol.p (shru (a := oc5 (oc4 (oc3 (oc2 (oc1 x))))) (n := 32)) ?_
  refine Ol.p (adu (a := oc5 (oc4 (oc3 (oc2 (oc1 x))))) (b := oc5 (oc4 (oc3 (oc2 (oc1 x)))) / 2 ^ 32)) ?_
  refine Ol.p asi ?_
  refine Ol.nil ?_
  refine Cd.seq ?_
  refine Cd.region ?_
  refine Ol.p mvi ?_
  refine Ol.p (cvw in_uint64 in_int) ?_
  refine Ol.p (an127 (a := oc6 (oc5 (oc4 (oc3 (oc2 (oc1 x)))))) (oc_lt _)) ?_
  refine Ol.p asi ?_
  refine Ol.nil ?_
  refine Cd.ret ⟨.int .i64 _, ret1 rfl rfl, [], .nil, rfl, rfl⟩
end
section
/-- What is yielded of a set. -/
def ysS (s : Nat) : List (List Value) := (listS s).map fun n : Nat => [.int .i64 (n : Int)]
/-- The value that goes through a set: its box. -/
def EachV (g : Nat) : Value := .func (.func 77) #[] #[.pointer (some ⟨g, 0, none⟩)]
theorem bits_Set_each_ct {w : World} {s : Nat} : Ct Tryd.prog 48 #[.agg (enc s)] w (fun v L => ∃ g, v = EachV g ∧ L = [blk g (.cells (enc s) 27)]) := by
  refine Ct.mk Tryd.func48 rfl rfl ?_
  refine Cd.seq ?_
  refine Cd.region ?_
  refine Ol.x bxg ?_
  rintro _ _ ⟨g1, rfl, rfl⟩
  refine Ol.p (as_ rfl) ?_
  refine Ol.nil ?_
  refine Cd.seq ?_
  refine Cd.region ?_
  refine Ol.p mkf ?_
  refine Ol.p asf ?_
  refine Ol.nil ?_
  refine Cd.ret ⟨_, ret1 rfl rfl, _, .all, g1, rfl, rfl⟩
theorem bits_Set_each_1_it {w0 : World} {B g s : Nat} (hT : Tabs w0 B) : It Tryd.prog w0 B 77 #[.pointer (some ⟨g, 0, none⟩)] [blk g (.cells (enc s) 27)] (ysS s) := by
  intro y J Jx L0 hY h0
  refine Cm.mk Tryd.func77 rfl rfl fun M => ?_
  have hret : ∀ {σ : Env} {Lj : List Res}, (J (ysS s).length Lj ∨ ∃ k, Jx k Lj) → Out ⟨Tryd.prog, 25, none, w0, B, M⟩ Tryd.f77 (fun _ L => ∃ Own' Lj, L = Own' ++ Lj ∧ (J (ysS s).length Lj ∨ ∃ k, Jx k Lj)) .ret σ (blk g (.cells (enc s) 27) :: Lj) := fun {σ Lj} h => ⟨_, ret0 rfl, _, .all, [_], Lj, rfl, h⟩
  refine Cd.seq ?_
  refine Cd.region ?_
  refine Ol.p (ldw ag_bits_Set (i := 0) rfl (enc_size _)) ?_
  refine Ol.p mvi ?_
  refine Ol.nil ?_
  refine Cd.block ?_
  refine Cd.loop (fun m σ L => ∃ k Lj, m = 16 - k ∧ k ≤ 16 ∧ Has σ [(0, .func (.yield y) #[] #[]), (5, .agg (enc s)), (6, .int .i64 k)] ∧ L = blk g (.cells (enc s) 27) :: Lj ∧ J (upto s (64 * k)).length Lj) (n := 16) ⟨0, L0, rfl, Nat.zero_le _, ⟨rfl, rfl, rfl, trivial⟩, rfl, h0⟩ ?_
  rintro _ σ L ⟨k, Lj, rfl, hk, hs, rfl, hJ⟩
  refine Cd.has hs ?_
  refine Cd.seq ?_
  refine Cd.region ?_
  refine Ol.p lsi ?_
  refine Ol.nil ?_
  refine Cd.seq ?_
  refine Cd.cond rfl (fun h => ?_) (fun h => ?_)
  · have hlt : k < 16 := by simp at h; omega
    refine Cd.skip ?_
    refine Cd.mid (fun σ' L' => ∃ Lj', Has σ' [(0, .func (.yield y) #[] #[]), (5, .agg (enc s)), (6, .int .i64 k)] ∧ L' = blk g (.cells (enc s) 27) :: Lj' ∧ J (upto s (64 * (k + 1))).length Lj') ?_ ?_
    · refine Cd.block ?_
      refine Cd.seq ?_
      refine Cd.region ?_
      refine Ol.p mvi ?_
      refine Ol.p (ixv ar_bits_Set one_uint64 hlt (encF_get hlt)) ?_
      refine Ol.p asi ?_
      refine Ol.p asi ?_
      refine Ol.nil ?_
      refine Cd.block ?_
      refine Cd.loop (fun m σ L => ∃ p Lj, m = 64 - p ∧ p ≤ 64 ∧ Has σ [(0, .func (.yield y) #[] #[]), (3, .int .i64 k), (4, .int .u64 (rem (wd s k) p : Nat)), (5, .agg (enc s)), (6, .int .i64 k)] ∧ L = blk g (.cells (enc s) 27) :: Lj ∧ J (upto s (64 * k + p)).length Lj) (n := 64) ⟨0, Lj, rfl, Nat.zero_le _, ⟨rfl, rfl, by rw [rem_zero]; rfl, rfl, rfl, trivial⟩, rfl, hJ⟩ ?_
      rintro _ σ L ⟨p, Lj, rfl, hp, hs, rfl, hJ⟩
      refine Cd.has hs ?_
      refine Cd.seq ?_
      refine Cd.seq ?_
      refine Cd.region ?_
      refine Ol.p mvi ?_
      refine Ol.p nei ?_
      refine Ol.nil ?_
      refine Cd.cond rfl (fun h => ?_) (fun h => ?_)
      · have hne : rem (wd s k) p ≠ 0 := by
          intro e; rw [e] at h; simp at h
        obtain ⟨j, hj⟩ := least_ex hne
        have hr64 : rem (wd s k) p < 2 ^ 64 := rem_lt (wd_lt s k)
        have hj64 := hj.lt hr64
        have hj1 := hj.1
        rw [testBit_rem, testBit_wd] at hj1
        simp only [Bool.and_eq_true, decide_eq_true_eq] at hj1
        obtain ⟨hpj, _, hbit⟩ := hj1
        have hskip : upto s (64 * k + j) = upto s (64 * k + p) := upto_skip (by omega) fun i h1 h2 => by
          have := hj.2 (i - 64 * k) (by omega)
          rw [testBit_rem, testBit_wd] at this
          have e1 : p ≤ i - 64 * k := by omega
          have e2 : i - 64 * k < 64 := by omega
          have e3 : 64 * k + (i - 64 * k) = i := by omega
          rw [e3] at this
          simpa [e1, e2] using this
        have hy1 : (ysS s)[(upto s (64 * k + p)).length]? = some [.int .i64 (((k * 2 ^ 6 : Nat) : Int) + (j : Int))] := by
          rw [← hskip]
          unfold ysS
          rw [List.getElem?_map, listS_get hbit (by omega)]
          simp only [Option.map_some]
          have : ((64 * k + j : Nat) : Int) = ((k * 2 ^ 6 : Nat) : Int) + (j : Int) := by omega
          rw [this]
        have hlen : (upto s (64 * k + p)).length + 1 = (upto s (64 * k + (j + 1))).length := by
          rw [show 64 * k + (j + 1) = (64 * k + j) + 1 from by omega, upto_succ, hbit, hskip]
          simp
        refine Cd.skip ?_
        refine Cd.seq ?_
        refine Cd.block ?_
        refine Cd.seq ?_
        refine Cd.region ?_
        refine Ol.p mvf ?_
        refine Ol.p mvi ?_
        refine Ol.p (shln (n := 6)) ?_
        refine Ol.p mvi ?_
        refine Ol.s (cl en_math_bits_TrailingZeros64 (fun M' w' hh => math_bits_TrailingZeros64_ct (hT.now hh) hr64 hj)) ?_
        refine Ol.p (addi (hr := by omega)) ?_
        refine Ol.x (sp_yield (Own := [blk g (.cells (enc s) 27)]) hY hy1 hJ) ?_
        rintro _ _ ⟨b, Lj', rfl, rfl, ht, hf⟩
        refine Ol.p noti ?_
        refine Ol.nil ?_
        rw [hlen] at ht hf
        refine Cd.cond rfl (fun hb => ?_) (fun hb => ?_)
        · have hb' : b = false := by simpa using hb
          refine Cd.ret (hret (.inr ⟨_, hf hb'⟩))
        · have hb' : b = true := by simpa using hb
          refine Cd.skip ?_
          refine Cd.region ?_
          refine Ol.p mvi ?_
          refine Ol.p mvi ?_
          refine Ol.p (sbu (a := rem (wd s k) p) (b := 1)) ?_
          refine Ol.p (andu (b := rem (wd s k) p - 1)) ?_
          refine Ol.p asi ?_
          refine Ol.nil ?_
          refine ⟨64 - (j + 1), by omega, j + 1, Lj', rfl, by omega, ⟨rfl, rfl, ?_, rfl, rfl, trivial⟩, rfl, ht hb'⟩
          rw [← rem_less hj, ← and_pred hj]
          rfl
      · have h0 : rem (wd s k) p = 0 := by
          simp at h; omega
        have hskip : upto s (64 * (k + 1)) = upto s (64 * k + p) := upto_skip (by omega) fun i h1 h2 => by
          have : (rem (wd s k) p).testBit (i - 64 * k) = false := by rw [h0, Nat.zero_testBit]
          rw [testBit_rem, testBit_wd] at this
          have e1 : p ≤ i - 64 * k := by omega
          have e2 : i - 64 * k < 64 := by omega
          have e3 : 64 * k + (i - 64 * k) = i := by omega
          rw [e3] at this
          simpa [e1, e2] using this
        refine Cd.exit (id := 2) ?_
        rw [← hskip] at hJ
        exact ⟨Lj, ⟨rfl, rfl, rfl, trivial⟩, rfl, hJ⟩
    · rintro σ' _ ⟨Lj', hs', rfl, hJ'⟩
      refine Cd.has hs' ?_
      refine Cd.region ?_
      refine Ol.p addi ?_
      refine Ol.p mvi ?_
      refine Ol.nil ?_
      exact ⟨16 - (k + 1), by omega, k + 1, Lj', rfl, by omega, ⟨rfl, rfl, rfl, trivial⟩, rfl, hJ'⟩
  · have hge : k = 16 := by simp at h; omega
    subst hge
    refine Cd.exit (id := 0) ?_
    refine hret (.inl ?_)
    have : (ysS s).length = (upto s (64 * 16)).length := by simp [ysS, listS]
    rw [this]; exact hJ
end
def intsN (l : List Nat) : List Value := l.map fun n : Nat => .int .i64 (n : Int)
theorem take_snoc? {α : Type} {l : List α} {k : Nat} {x : α} (h : l[k]? = some x) : l.take (k + 1) = l.take k ++ [x] := by
  obtain ⟨h1, h2⟩ := List.getElem?_eq_some_iff.1 h
  rw [take_snoc h1, h2]
section
theorem ysS_get {s k : Nat} {vs : List Value} (h : (ysS s)[k]? = some vs) : ∃ n, (listS s)[k]? = some n ∧ vs = [.int .i64 (n : Int)] ∧ k < (listS s).length := by
  unfold ysS at h
  rw [List.getElem?_map] at h
  cases hn : (listS s)[k]? with
  | none => rw [hn] at h; cases h
  | some n => rw [hn] at h; cases h; exact ⟨n, rfl, rfl, (List.getElem?_eq_some_iff.1 hn).1⟩
theorem bits_Set_List_ct {w : World} {s : Nat} (hT : Tabs w w.heap.size) : Ct Tryd.prog 20 #[.agg (enc s)] w (NewL 3 1 (listS s).length (intsN (listS s))) := by
  refine Ct.mk Tryd.func20 rfl rfl ?_
  refine Cd.seq ?_
  refine Cd.region ?_
  refine Ol.x bxg ?_
  rintro _ _ ⟨g1, rfl, rfl⟩
  refine Ol.x (alc zr_L_int) ?_
  rintro _ _ ⟨g2, rfl, rfl⟩
  refine Ol.nil ?_
  refine Cd.seq ?_
  refine Cd.seq ?_
  refine Cd.region ?_
  refine Ol.p (ldw ag_bits_Set (i := 1) rfl (enc_size _)) ?_
  refine Ol.x (sp_call en_bits_Set_each (fun M w' hh => bits_Set_each_ct)) ?_
  rintro _ _ ⟨_, rfl, gE, rfl, rfl⟩
  refine Ol.nil ?_
  refine Cd.block ?_
  refine Cd.keep (L' := [blk gE (.cells (enc s) 27), blk g2 (.cells #[.slice none 0 0] 22)]) (.sub (.cons_cons _ (.cons_cons _ (.cons _ .slnil)))) ?_
  refine Cd.nr 3 1 ?_
  refine Cd.rf (Own := [blk gE (.cells (enc s) 27)]) (L0 := [row (.slice none 0 0) 3 1 0 [], blk g2 (.cells #[.slice none 0 0] 22)])
    (fun k L => ∃ A c, k ≤ (listS s).length ∧ L = [row (.slice A k c) 3 1 k (intsN ((listS s).take k)), blk g2 (.cells #[.slice A k c] 22)])
    (fun _ _ _ => False) (fun _ h => by cases h) en_bits_Set_each_1 (bits_Set_each_1_it hT) (.swap _ _ _) ⟨none, 0, Nat.zero_le _, rfl⟩ ?_ rfl ?_ ?_ (fun _ _ _ h => h.elim)
  · intro vs hvs
    unfold ysS at hvs
    rw [List.mem_map] at hvs
    obtain ⟨n, _, rfl⟩ := hvs
    rfl
  · rintro l H k vs Lj hk ⟨A, c, hkl, rfl⟩
    obtain ⟨n, hn, rfl, hlt⟩ := ysS_get hk
    have hlen : (listS s).length ≤ 1024 := listS_len_le s
    refine Cd.region ?_
    refine Ol.p asi ?_
    refine Ol.nil ?_
    intro H' r hr
    refine Cd.block ?_
    refine Cd.region ?_
    refine Ol.p (ldv one_L_int (i := 1) rfl) ?_
    refine Ol.p mvi ?_
    refine Ol.x (bsv [.int .i64 (n : Int)] sl_L_int zr_int (by simp [Value.cells])) ?_
    rintro _ _ ⟨gT, rfl, rfl⟩
    refine Ol.x (apn (i := 1) (m := 1) sl_L_int zr_int rfl (by decide) rfl (Src.row (i := 0) rfl rfl) (by intro u hu; cases hu with | head => rfl | tail _ h => cases h) (by unfold maxLen; omega) (by omega)) ?_
    rintro _ _ ⟨A', c', rfl, rfl⟩
    refine Ol.s (stv sz_L_int (i := 2) rfl rfl) ?_
    refine Ol.keep (.sub (.cons _ (.refl _))) ?_
    refine Ol.nil ?_
    refine ⟨A', c', by omega, ?_⟩
    have e : intsN ((listS s).take (k + 1)) = intsN ((listS s).take k) ++ [.int .i64 (n : Int)] := by rw [take_snoc? hn]; simp [intsN]
    rw [e]
    rfl
  · rintro L' ⟨A, c, _, rfl⟩
    rw [show (ysS s).length = (listS s).length by simp [ysS]]
    refine Cd.seq ?_
    refine Cd.region ?_
    refine Ol.p (ldv one_L_int (i := 1) rfl) ?_
    refine Ol.s (stv sz_L_int (i := 1) rfl rfl) ?_
    refine Ol.nil ?_
    rw [List.take_length]
    refine Cd.ret ⟨_, retv rfl one_L_int rfl (i := 1) rfl rfl, _, .sub (.cons_cons _ (.cons _ .slnil)), A, c, rfl, rfl⟩
end
section
def firstS (s : Nat) : Int := match (listS s) with
  | [] => -1
  | n :: _ => (n : Int)
theorem bits_Set_First_ct {w : World} {s : Nat} (hT : Tabs w w.heap.size) : Ct Tryd.prog 22 #[.agg (enc s)] w (Is (.int .i64 (firstS s))) := by
  refine Ct.mk Tryd.func22 rfl rfl ?_
  refine Cd.seq ?_
  refine Cd.region ?_
  refine Ol.x bxg ?_
  rintro _ _ ⟨g1, rfl, rfl⟩
  refine Ol.x (alc zr_int) ?_
  rintro _ _ ⟨g2, rfl, rfl⟩
  refine Ol.nil ?_
  refine Cd.seq ?_
  refine Cd.seq ?_
  refine Cd.region ?_
  refine Ol.p (ldw ag_bits_Set (i := 1) rfl (enc_size _)) ?_
  refine Ol.x (sp_call en_bits_Set_each (fun M w' hh => bits_Set_each_ct)) ?_
  rintro _ _ ⟨_, rfl, gE, rfl, rfl⟩
  refine Ol.nil ?_
  refine Cd.block ?_
  refine Cd.rf (Own := [blk gE (.cells (enc s) 27)]) (L0 := [blk g2 (.cells #[.int .i64 0] 3), blk g1 (.cells (enc s) 27)])
    (fun k L => k = 0 ∧ L = [blk g2 (.cells #[.int .i64 0] 3), blk g1 (.cells (enc s) 27)])
    (fun _ c L => c = .ret ∧ L = [blk g2 (.cells #[.int .i64 (firstS s)] 3), blk g1 (.cells (enc s) 27)]) (fun _ h => by cases h) en_bits_Set_each_1 (bits_Set_each_1_it hT) (.refl _) ⟨rfl, rfl⟩ ?_ rfl ?_ ?_ ?_
  · intro vs hvs
    unfold ysS at hvs
    rw [List.mem_map] at hvs
    obtain ⟨n, _, rfl⟩ := hvs
    rfl
  · rintro l H k vs Lj hk ⟨rfl, rfl⟩
    obtain ⟨n, hn, rfl, hlt⟩ := ysS_get hk
    have hf : firstS s = (n : Int) := by
      unfold firstS
      cases hl : listS s with
      | nil => rw [hl] at hn; cases hn
      | cons m l => rw [hl] at hn; simp at hn; subst hn; rfl
    refine Cd.region ?_
    refine Ol.p asi ?_
    refine Ol.nil ?_
    intro H' r hr
    refine Cd.block ?_
    refine Cd.seq ?_
    refine Cd.region ?_
    refine Ol.p mvi ?_
    refine Ol.s (stv sz_int (i := 0) rfl rfl) ?_
    refine Ol.nil ?_
    refine Cd.ret ⟨rfl, ?_⟩
    rw [hf]
    rfl
  · rintro L' ⟨hlen, rfl⟩
    have hf : firstS s = -1 := by
      unfold firstS
      cases hl : listS s with
      | nil => rfl
      | cons m l => simp [ysS, hl] at hlen
    refine Cd.seq ?_
    refine Cd.region ?_
    refine Ol.s (stv sz_int (i := 0) rfl rfl) ?_
    refine Ol.nil ?_
    refine Cd.ret ⟨_, retv rfl one_int rfl (i := 0) rfl rfl, [], .nil, by rw [hf]; rfl, rfl⟩
  · rintro k _ L' ⟨rfl, rfl⟩
    refine Cd.ret ⟨_, retv rfl one_int rfl (i := 0) rfl rfl, [], .nil, rfl, rfl⟩
end
section
def manyF (s k : Nat) : Nat := ((List.range k).map fun i => ocN (wd s i)).sum
theorem manyF_succ (s k : Nat) : manyF s (k + 1) = manyF s k + ocN (wd s k) := by simp [manyF, List.range_succ]
theorem manyF_lt (s : Nat) : ∀ k, manyF s k ≤ 127 * k
  | 0 => by simp [manyF]
  | k + 1 => by
    have := manyF_lt s k
    have h2 : ocN (wd s k) < 128 := Nat.mod_lt _ (by decide)
    rw [manyF_succ]; omega
theorem bits_Set_Many_ct {w : World} {s : Nat} : Ct Tryd.prog 21 #[.agg (enc s)] w (Is (.int .i64 (manyF s 16 : Int))) := by
  refine Ct.mk Tryd.func21 rfl rfl ?_
  refine Cd.seq ?_
  refine Cd.region ?_
  refine Ol.x bxg ?_
  rintro _ _ ⟨g1, rfl, rfl⟩
  refine Ol.p asi ?_
  refine Ol.nil ?_
  refine Cd.seq ?_
  refine Cd.seq ?_
  refine Cd.region ?_
  refine Ol.p (ldw ag_bits_Set (i := 0) rfl (enc_size _)) ?_
  refine Ol.p mvi ?_
  refine Ol.nil ?_
  refine Cd.block ?_
  refine Cd.loop (fun m σ L => ∃ k, m = 16 - k ∧ k ≤ 16 ∧ Has σ [(2, .int .i64 (manyF s k : Int)), (5, .agg (enc s)), (6, .int .i64 k)] ∧ L = [blk g1 (.cells (enc s) 27)]) (n := 16) ⟨0, rfl, Nat.zero_le _, ⟨rfl, rfl, rfl, trivial⟩, rfl⟩ ?_
  rintro _ σ L ⟨k, rfl, hk, hs, rfl⟩
  refine Cd.has hs ?_
  refine Cd.seq ?_
  refine Cd.region ?_
  refine Ol.p lsi ?_
  refine Ol.nil ?_
  refine Cd.seq ?_
  refine Cd.cond rfl (fun h => ?_) (fun h => ?_)
  · have hlt : k < 16 := by simp at h; omega
    refine Cd.skip ?_
    refine Cd.seq ?_
    refine Cd.block ?_
    refine Cd.seq ?_
    refine Cd.region ?_
    refine Ol.p (ixv ar_bits_Set one_uint64 hlt (encF_get hlt)) ?_
    refine Ol.p asi ?_
    refine Ol.nil ?_
    have h1 := manyF_lt s k
    have h2 : ocN (wd s k) < 128 := Nat.mod_lt _ (by decide)
    refine Cd.region ?_
    refine Ol.p mvi ?_
    refine Ol.p mvi ?_
    refine Ol.s (cl en_math_bits_OnesCount64 (fun M w' hh => math_bits_OnesCount64_ct (wd_lt s k))) ?_
    refine Ol.p addi ?_
    refine Ol.p asi ?_
    refine Ol.nil ?_
    refine Cd.region ?_
    refine Ol.p addi ?_
    refine Ol.p mvi ?_
    refine Ol.nil ?_
    refine ⟨16 - (k + 1), by omega, k + 1, rfl, by omega, ⟨?_, rfl, rfl, trivial⟩, rfl⟩
    rw [manyF_succ]
    rfl
  · have hge : k = 16 := by simp at h; omega
    subst hge
    refine Cd.exit (id := 0) ?_
    refine Cd.seq ?_
    refine Cd.region ?_
    refine Ol.p mvi ?_
    refine Ol.p asi ?_
    refine Ol.nil ?_
    refine Cd.ret ⟨_, ret1 rfl rfl, [], .nil, rfl, rfl⟩
end
end Go.Proofs.YtbcnejobnmljlaaDoor

/- Opening arguments for the walks; closing a law's row. -/
namespace Go.Proofs.YtbcnejobnmljlaaDoor
set_option linter.unusedVariables false
open Go.ChangeShapes Go.WideShapes Go.ChangeAt Go.RowKit
set_option maxRecDepth 100000

theorem own_ : ownKnob Tryd.prog.godebug = none := by kernel_rfl
theorem laidOut_ : laidOutB Tryd.prog = true := by kernel_rfl
theorem bytes_int : Tryd.prog.bytesOf 3 = 8 := by kernel_rfl
theorem cells_int : Tryd.prog.cellsOf 3 = 1 := by kernel_rfl
theorem i64_of_wf {n : Int} (h : (Lit.int .i64 n).wf = true) : I64 n := by
  have := bounds_i64 h
  unfold I64; omega
/-- A slice of integers that came in, for the walks. -/
theorem reads_ints {H : Type} {enc : TypeId × Value → H} {W : World} {a : Option Addr} {len cap : Nat} {d : DataW H} {p : List MemPlace} (h : DataW.Trod enc Tryd.prog W 0 (fun _ => true) true 22 (.slice a len cap) d p) :
    ∃ l : List Int, l.length = len ∧ len ≤ cap ∧ Reads W W.heap.size 1 a l.length (ints l) ∧ (∀ n ∈ l, I64 n) ∧ (len = 0 ∨ ∃ elems spare, d = .slice elems spare ∧ len ≤ elems.length + spare.length) := by
  obtain ⟨fuel, hf⟩ := h
  rcases open_ints Tryd.underlying22 Tryd.underlying3 cells_int hf with ⟨hcs, hx⟩ | ⟨x, l, c, zs, hcs, _, hl, hm, hz, hx, hcell, hwz⟩
  · simp [Value.cells] at hcs
    obtain ⟨rfl, rfl, rfl⟩ := hcs
    exact ⟨[], rfl, Nat.le_refl _, ⟨rfl, fun h => by simp at h⟩, by simp, .inl rfl⟩
  · simp [Value.cells] at hcs
    obtain ⟨rfl, rfl, rfl⟩ := hcs
    have hz' : zs.length = cap := by simpa using hz
    have hlen : (zs.take len).length = len := by simp; omega
    refine ⟨zs.take len, hlen, hl, ⟨by simp [ints], fun hn => ⟨x, rfl, ?_, fun j u hu => ?_⟩⟩, fun n hn => i64_of_wf (hwz n (List.mem_of_mem_take hn)), .inr ⟨_, _, congrArg Prod.fst hx, ?_⟩⟩
    · have h0 := hcell 0 (by omega)
      have := World.block_lt_of_cell? W _ h0
      simpa [Addr.add] using this
    · unfold ints at hu
      rw [List.getElem?_map] at hu
      cases hj : (zs.take len)[j]? with
      | none => rw [hj] at hu; cases hu
      | some z =>
        rw [hj] at hu
        cases hu
        have h1 : j < len := by
          have := (List.getElem?_eq_some_iff.1 hj).1
          omega
        have h2 := hcell j (by omega)
        rw [h2]
        rw [List.getElem?_take, if_pos h1] at hj
        simp [List.getD_eq_getElem?_getD, hj]
    · simp [lits]
      omega
section
theorem tab_named : Tryd.prog.globalNamed "math/bits.deBruijn64tab" = some 0 := by kernel_rfl
theorem tab_type : (Tryd.prog.globals[0]?).map (·.type) = some 139 := by kernel_rfl
theorem tab_cells : Tryd.prog.cellsOf 139 = 64 := by kernel_rfl
theorem u8_cells : Tryd.prog.cellsOf 5 = 1 := by kernel_rfl
def tabL : List (String × DataW Unit) := [("math/bits.deBruijn64tab", Rows.laid_math_bits_deBruijn64tab)]
theorem tabs_of_laid {W : World} (h : laidMetH Tryd.prog tabL W) : Tabs W W.heap.size := by
  have h' : laidMet Tryd.prog tabL W := h
  have hT := Lib.tabIs_of_head (zs := tzTab.map fun n : Nat => (n : Int)) tab_named tab_type Tryd.underlying139 Tryd.underlying5 u8_cells tab_cells (rest := []) (by exact h')
  have hc : ∀ k v : Nat, tzTab[k]? = some v → W.cell? ⟨0, k, none⟩ = some (.int .u8 (v : Int)) := fun k v hk => by
    have hlt : k < 64 := (List.getElem?_eq_some_iff.1 hk).1
    have := hT.cell tab_named k (by simpa [tzTab] using hlt)
    rw [this]
    simp [List.getD_eq_getElem?_getD, hk]
  exact ⟨by have := World.block_lt_of_cell? W _ (hc 0 0 rfl); simpa using this, hc⟩
theorem door_met (os : Os) (args : Array Value) : laidMetH Tryd.prog tabL ((World.doorLaid Tryd.prog 14 os).forCall (fun _ _ => 0) ⟨#[], args, []⟩).memory :=
  laidMetH_of_parts3 (fuel := 8) (laidMet_of_run' 65 (by kernel_rfl) (by kernel_rfl)) (by kernel_rfl) (by kernel_rfl)
end
end Go.Proofs.YtbcnejobnmljlaaDoor

/- Functions of the program (api.Func), as they lie in memory; plain functions on them. -/
namespace Go.Proofs.YtbcnejobnmljlaaDoor
set_option linter.unusedVariables false
open Go Go.RowKit

structure Tm where
  kind : Int
  a : Int
  t0 : Int
  t1 : Int
deriving DecidableEq
structure RIns where
  op : Int
  dst : Int
  a : Int
  b : Int
  imm : Int
  callee : Int
  aA : Option Addr
  aC : Nat
  args : List Int
  many : Int
structure RBlk where
  iA : Option Addr
  iC : Nat
  ins : List RIns
  term : Tm
structure RFun where
  pA : Option Addr
  pC : Nat
  params : List Int
  bA : Option Addr
  bC : Nat
  blocks : List RBlk
def Tm.cells (t : Tm) : List Value := [.int .i64 t.kind, .int .i64 t.a, .int .i64 t.t0, .int .i64 t.t1]
def RIns.cells (i : RIns) : List Value := [.int .i64 i.op, .int .i64 i.dst, .int .i64 i.a, .int .i64 i.b, .int .i64 i.imm, .int .i64 i.callee, .slice i.aA i.args.length i.aC, .int .i64 i.many]
def RBlk.cells (b : RBlk) : List Value := .slice b.iA b.ins.length b.iC :: b.term.cells
def RFun.cells (f : RFun) : List Value := [.slice f.pA f.params.length f.pC, .slice f.bA f.blocks.length f.bC]
def RFun.val (f : RFun) : Value := .agg f.cells.toArray
def Tm.val (t : Tm) : Value := .agg t.cells.toArray
def RIns.val (i : RIns) : Value := .agg i.cells.toArray
def RBlk.val (b : RBlk) : Value := .agg b.cells.toArray
def RFun.terms (f : RFun) : List Tm := f.blocks.map RBlk.term
theorem RBlk.len (b : RBlk) : b.cells.length = 5 := rfl
theorem RIns.len (i : RIns) : i.cells.length = 8 := rfl
theorem Tm.len (t : Tm) : t.cells.length = 4 := rfl
theorem flat_get {α β : Type} {f : α → List β} {s : Nat} (hs : ∀ x, (f x).length = s) : ∀ (l : List α) (k j : Nat) (x : α), l[k]? = some x → j < s → (l.flatMap f)[k * s + j]? = (f x)[j]?
  | [], k, j, x, h, _ => by simp at h
  | y :: l, 0, j, x, h, hj => by
    simp at h
    subst h
    rw [List.flatMap_cons, Nat.zero_mul, Nat.zero_add, List.getElem?_append_left (by rw [hs]; exact hj)]
  | y :: l, k + 1, j, x, h, hj => by
    have ih := flat_get hs l k j x (by simpa using h) hj
    rw [List.flatMap_cons, List.getElem?_append_right (by rw [hs, Nat.add_mul]; omega), hs]
    rw [← ih]
    congr 1
    rw [Nat.add_mul]; omega
theorem flat_len {α β : Type} {f : α → List β} {s : Nat} (hs : ∀ x, (f x).length = s) : ∀ l : List α, (l.flatMap f).length = l.length * s
  | [] => by simp
  | y :: l => by rw [List.flatMap_cons, List.length_append, hs, flat_len hs l, List.length_cons, Nat.add_mul]; omega
/-- All of a function lies below B. -/
structure FunAt (w : World) (B : Nat) (f : RFun) : Prop where
  params : Reads w B 1 f.pA f.params.length (ints f.params)
  blocks : Reads w B 5 f.bA f.blocks.length (f.blocks.flatMap RBlk.cells)
  ins : ∀ b ∈ f.blocks, Reads w B 8 b.iA b.ins.length (b.ins.flatMap RIns.cells)
  args : ∀ b ∈ f.blocks, ∀ i ∈ b.ins, Reads w B 1 i.aA i.args.length (ints i.args)
theorem FunAt.now {w0 w : World} {B : Nat} {f : RFun} {L : List Res} (h : FunAt w0 B f) (hh : Hp w0 B L w) : FunAt w w.heap.size f :=
  ⟨h.params.now hh, h.blocks.now hh, fun b hb => (h.ins b hb).now hh, fun b hb i hi => (h.args b hb i hi).now hh⟩
theorem FunAt.cell {w : World} {B : Nat} {f : RFun} (h : FunAt w B f) {k j : Nat} {b : RBlk} (hk : f.blocks[k]? = some b) (hj : j < 5) : (f.blocks.flatMap RBlk.cells)[k * 5 + j]? = b.cells[j]? := flat_get RBlk.len _ _ _ _ hk hj
/-- Its numbers are numbers, its lists are not endless. -/
structure Fit (f : RFun) : Prop where
  params : ∀ n ∈ f.params, -9223372036854775808 ≤ n ∧ n ≤ 9223372036854775807
  plen : f.params.length < 2 ^ 50
  blen : f.blocks.length < 2 ^ 50
  pcap : f.params.length ≤ f.pC
  bcap : f.blocks.length ≤ f.bC
  ilen : ∀ b ∈ f.blocks, b.ins.length < 2 ^ 50
  icap : ∀ b ∈ f.blocks, b.ins.length ≤ b.iC
  term : ∀ b ∈ f.blocks, ∀ n ∈ [b.term.kind, b.term.a, b.term.t0, b.term.t1], -9223372036854775808 ≤ n ∧ n ≤ 9223372036854775807
  insr : ∀ b ∈ f.blocks, ∀ i ∈ b.ins, ∀ n ∈ [i.op, i.dst, i.a, i.b, i.imm, i.callee, i.many], -9223372036854775808 ≤ n ∧ n ≤ 9223372036854775807
  alen : ∀ b ∈ f.blocks, ∀ i ∈ b.ins, i.args.length < 2 ^ 50
  acap : ∀ b ∈ f.blocks, ∀ i ∈ b.ins, i.args.length ≤ i.aC
  argr : ∀ b ∈ f.blocks, ∀ i ∈ b.ins, ∀ n ∈ i.args, -9223372036854775808 ≤ n ∧ n ≤ 9223372036854775807

/-! ### Ends -/
def varB (n : Int) : Bool := decide (1 ≤ n) && decide (n ≤ 200)
def fitsB (has : Bool) (n : Int) : Bool := bif has then varB n else decide (n = 0)
def noneB (l : List Int) : Bool := l.all fun n => decide (n = 0)
def isTerm (t : Tm) : Bool :=
  bif decide (t.kind = 1) then noneB [t.a, t.t1] else bif decide (t.kind = 2) then varB t.a else bif decide (t.kind = 3) then fitsB (!decide (t.a = 0)) t.a && noneB [t.t0, t.t1] else decide (t.kind = 4) && noneB [t.a, t.t0, t.t1]
def toL (t : Tm) : List Int := bif isTerm t then (bif decide (t.kind = 1) then [t.t0] else bif decide (t.kind = 2) then [t.t0, t.t1] else []) else []
theorem toL_len (t : Tm) : (toL t).length ≤ 2 := by
  unfold toL
  cases isTerm t <;> simp
  cases decide (t.kind = 1) <;> simp
  cases decide (t.kind = 2) <;> simp
theorem toL_mem {t : Tm} {n : Int} (h : n ∈ toL t) : n = t.t0 ∨ n = t.t1 := by
  unfold toL at h
  cases h1 : isTerm t <;> simp [h1] at h
  cases h2 : decide (t.kind = 1) <;> simp [h2] at h
  · cases h3 : decide (t.kind = 2) <;> simp [h3] at h
    exact h
  · exact .inl h

/-! ### Edges -/
structure Ed where
  src : Int
  arm : Int
  to : Int
deriving DecidableEq
def Ed.cells (e : Ed) : List Value := [.int .i64 e.src, .int .i64 e.arm, .int .i64 e.to]
def Ed.val (e : Ed) : Value := .agg e.cells.toArray
def edgesB (b : Nat) (l : List Int) : List Ed := l.zipIdx.map fun x => ⟨(b : Int), (x.2 : Int), x.1⟩
def edgesTo (ts : List Tm) (k : Nat) : List Ed := (ts.take k).zipIdx.flatMap fun x => edgesB x.2 (toL x.1)
def edges (ts : List Tm) : List Ed := edgesTo ts ts.length
theorem edgesTo_zero (ts : List Tm) : edgesTo ts 0 = [] := by simp [edgesTo]
theorem take_snoc_ {α : Type} {l : List α} {k : Nat} {x : α} (h : l[k]? = some x) : l.take (k + 1) = l.take k ++ [x] := by
  obtain ⟨h1, h2⟩ := List.getElem?_eq_some_iff.1 h
  rw [List.take_succ_eq_append_getElem h1, h2]
theorem edgesTo_succ {ts : List Tm} {k : Nat} {t : Tm} (h : ts[k]? = some t) : edgesTo ts (k + 1) = edgesTo ts k ++ edgesB k (toL t) := by
  have hk := (List.getElem?_eq_some_iff.1 h).1
  unfold edgesTo
  rw [take_snoc_ h, List.zipIdx_append, List.flatMap_append]
  congr 1
  have : (ts.take k).length = k := by simp; omega
  simp [this]
theorem edgesTo_pre (ts : List Tm) : ∀ {k m : Nat}, k ≤ m → m ≤ ts.length → ∃ r, edgesTo ts m = edgesTo ts k ++ r := by
  intro k m h hm
  induction m with
  | zero => exact ⟨[], by rw [show k = 0 by omega]; simp⟩
  | succ m ih =>
    by_cases he : k = m + 1
    · exact ⟨[], by rw [he]; simp⟩
    · obtain ⟨r, hr⟩ := ih (by omega) (by omega)
      exact ⟨r ++ edgesB m (toL ts[m]), by rw [edgesTo_succ (List.getElem?_eq_getElem (by omega)), hr]; simp⟩
theorem edgesB_len (b : Nat) (l : List Int) : (edgesB b l).length = l.length := by simp [edgesB]
/-- The edge behind those of the blocks below k, and of k's first arms. -/
theorem edges_get {ts : List Tm} {k j : Nat} {t : Tm} {n : Int} (h : ts[k]? = some t) (hj : (toL t)[j]? = some n) : (edges ts)[(edgesTo ts k).length + j]? = some ⟨(k : Int), (j : Int), n⟩ := by
  have hk := (List.getElem?_eq_some_iff.1 h).1
  have hjl := (List.getElem?_eq_some_iff.1 hj).1
  obtain ⟨r, hr⟩ := edgesTo_pre ts (k := k + 1) (m := ts.length) (by omega) (Nat.le_refl _)
  unfold edges
  rw [hr, edgesTo_succ h, List.append_assoc, List.getElem?_append_right (by omega), Nat.add_sub_cancel_left, List.getElem?_append_left (by rw [edgesB_len]; exact hjl)]
  unfold edgesB
  rw [List.getElem?_map, List.getElem?_zipIdx, hj]
  simp
theorem edgesTo_len_le (ts : List Tm) (k : Nat) : (edgesTo ts k).length ≤ 2 * k := by
  induction k with
  | zero => simp [edgesTo]
  | succ k ih =>
    by_cases h : k < ts.length
    · rw [edgesTo_succ (List.getElem?_eq_getElem h), List.length_append, edgesB_len]
      have := toL_len ts[k]
      omega
    · have : edgesTo ts (k + 1) = edgesTo ts k := by unfold edgesTo; rw [List.take_of_length_le (by omega), List.take_of_length_le (by omega)]
      rw [this]; omega
theorem mem_edges {ts : List Tm} {e : Ed} : e ∈ edges ts ↔ ∃ (k j : Nat) (t : Tm), ts[k]? = some t ∧ (toL t)[j]? = some e.to ∧ e.src = (k : Int) ∧ e.arm = (j : Int) := by
  unfold edges edgesTo edgesB
  simp only [List.take_length, List.mem_flatMap, Prod.exists, List.mem_map, List.mem_zipIdx_iff_getElem?]
  constructor
  · rintro ⟨t, k, hk, n, j, hj, rfl⟩
    exact ⟨k, j, t, hk, hj, rfl, rfl⟩
  · rintro ⟨k, j, t, hk, hj, h1, h2⟩
    refine ⟨t, k, hk, e.to, j, hj, ?_⟩
    cases e
    simp at h1 h2
    simp [h1, h2]
/-- Do all edges go to blocks, and are there blocks, not too many? -/
def closed (ts : List Tm) : Bool := (edges ts).all (fun e => decide (0 ≤ e.to) && decide (e.to < (ts.length : Int))) && decide (0 < ts.length) && decide (ts.length ≤ 200)
def someE (ts : List Tm) (p : Ed → Bool) : List Ed := bif closed ts then (edges ts).filter p else []
def edV (l : List Ed) : List Value := l.flatMap Ed.cells
theorem Ed.len (e : Ed) : e.cells.length = 3 := rfl
end Go.Proofs.YtbcnejobnmljlaaDoor

/- The package ir: ends, where they go; the slices' functions that they call, walked. -/
namespace Go.Proofs.YtbcnejobnmljlaaDoor
set_option linter.unusedVariables false
open Go Go.RowKit
set_option maxRecDepth 100000

section
theorem ir_variable_ct {w : World} {n : Int} : Ct Tryd.prog 90 #[.int .i64 n] w (Is (.bool (varB n))) := by
  refine Ct.mk Tryd.func90 rfl rfl ?_
  refine Cd.seq ?_
  refine Cd.region ?_
  refine Ol.p asb ?_
  refine Ol.nil ?_
  refine Cd.seq ?_
  cases h : decide (1 ≤ n) with
  | true =>
    refine Cd.region ?_
    refine Ol.p mvi ?_
    refine Ol.p gei ?_
    refine Ol.p mvb ?_
    refine Ol.gp h mvi ?_
    refine Ol.gp h lei ?_
    refine Ol.p (pkTb h) ?_
    refine Ol.p asb ?_
    refine Ol.nil ?_
    refine Cd.ret ⟨.bool _, ret1 rfl rfl, [], .nil, ?_, rfl⟩
    unfold varB; rw [h]; rfl
  | false =>
    refine Cd.region ?_
    refine Ol.p mvi ?_
    refine Ol.p gei ?_
    refine Ol.p mvb ?_
    refine Ol.gn h ?_
    refine Ol.gn h ?_
    refine Ol.p (pkFb h) ?_
    refine Ol.p asb ?_
    refine Ol.nil ?_
    refine Cd.ret ⟨.bool _, ret1 rfl rfl, [], .nil, ?_, rfl⟩
    unfold varB; rw [h]; rfl
theorem ir_fits_ct {w : World} {b : Bool} {n : Int} : Ct Tryd.prog 97 #[.bool b, .int .i64 n] w (Is (.bool (fitsB b n))) := by
  refine Ct.mk Tryd.func97 rfl rfl ?_
  refine Cd.seq ?_
  refine Cd.region ?_
  refine Ol.p asb ?_
  refine Ol.nil ?_
  refine Cd.seq ?_
  refine Cd.seq ?_
  refine Cd.region ?_
  refine Ol.p mvb ?_
  refine Ol.nil ?_
  refine Cd.cond rfl (fun h => ?_) (fun h => ?_)
  · subst h
    refine Cd.seq ?_
    refine Cd.region ?_
    refine Ol.p mvi ?_
    refine Ol.s (cl en_ir_variable (fun M w' hh => ir_variable_ct)) ?_
    refine Ol.p asb ?_
    refine Ol.nil ?_
    refine Cd.ret ⟨.bool _, ret1 rfl rfl, [], .nil, rfl, rfl⟩
  · subst h
    refine Cd.skip ?_
    refine Cd.seq ?_
    refine Cd.region ?_
    refine Ol.p mvi ?_
    refine Ol.p eqi ?_
    refine Ol.p asb ?_
    refine Ol.nil ?_
    refine Cd.ret ⟨.bool _, ret1 rfl rfl, [], .nil, rfl, rfl⟩
end

/-- The place of the first one that p takes. -/
def indexI {α : Type} (p : α → Bool) (l : List α) : Int := match l.findIdx? p with
  | some i => (i : Int)
  | none => -1
theorem indexI_at {α : Type} {p : α → Bool} {l : List α} {k : Nat} {x : α} (hx : l[k]? = some x) (hp : p x = true) (hb : ∀ i y, i < k → l[i]? = some y → p y = false) : indexI p l = (k : Int) := by
  have hk := (List.getElem?_eq_some_iff.1 hx).1
  have : l.findIdx? p = some k := by
    rw [List.findIdx?_eq_some_iff_getElem]
    refine ⟨hk, ?_, ?_⟩
    · rw [(List.getElem?_eq_some_iff.1 hx).2]; exact hp
    · intro j hj
      rw [hb j l[j] hj (List.getElem?_eq_getElem (by omega))]; simp
  unfold indexI; rw [this]
theorem indexI_none {α : Type} {p : α → Bool} {l : List α} (hb : ∀ i y, i < l.length → l[i]? = some y → p y = false) : indexI p l = -1 := by
  have : l.findIdx? p = none := by
    rw [List.findIdx?_eq_none_iff]
    intro x hx
    obtain ⟨i, hi, rfl⟩ := List.getElem_of_mem hx
    exact hb i _ hi (List.getElem?_eq_getElem hi)
  unfold indexI; rw [this]
theorem indexI_ge {α : Type} (p : α → Bool) (l : List α) : decide ((0 : Int) ≤ indexI p l) = l.any p := by
  rw [Bool.eq_iff_iff, decide_eq_true_iff]
  unfold indexI
  cases h : l.findIdx? p with
  | none =>
    rw [List.findIdx?_eq_none_iff] at h
    constructor
    · intro h0; simp at h0
    · intro h0
      rw [List.any_eq_true] at h0
      obtain ⟨x, hx, hp⟩ := h0
      rw [h x hx] at hp; cases hp
  | some i =>
    rw [List.findIdx?_eq_some_iff_getElem] at h
    obtain ⟨hi, hp, _⟩ := h
    constructor
    · intro _
      rw [List.any_eq_true]
      exact ⟨_, List.getElem_mem hi, hp⟩
    · intro _; show (0 : Int) ≤ (i : Int); omega
theorem indexI_lt {α : Type} (p : α → Bool) (l : List α) : indexI p l < l.length := by
  unfold indexI
  cases h : l.findIdx? p with
  | none => simp; omega
  | some i =>
    rw [List.findIdx?_eq_some_iff_getElem] at h
    obtain ⟨hi, _⟩ := h
    show (i : Int) < l.length
    omega
/-- A function value that tells whether something is so of numbers. -/
def TellsI (P : Program) (w : World) (g : FuncId) (fst cap : Array Value) (l : List Int) (p : Int → Bool) : Prop := Ent P g ∧ ∀ n ∈ l, ∀ w', Below w.heap.size w w' → Ct P g (fst ++ #[.int .i64 n] ++ cap) w' (Is (.bool (p n)))
section
theorem slices_IndexFunc_L_int_int_ct {w : World} {A : Option Addr} {c : Nat} {l : List Int} {g : FuncId} {fst cap : Array Value} {p : Int → Bool} (hl : Reads w w.heap.size 1 A l.length (ints l)) (hb : l.length < 2 ^ 62) (hf : TellsI Tryd.prog w g fst cap l p) :
    Ct Tryd.prog 109 #[.slice A l.length c, .func (.func g) fst cap] w (Is (.int .i64 (indexI p l))) := by
  refine Ct.mk Tryd.func109 rfl rfl ?_
  refine Cd.seq ?_
  refine Cd.region ?_
  refine Ol.p asi ?_
  refine Ol.nil ?_
  refine Cd.seq ?_
  refine Cd.seq ?_
  refine Cd.region ?_
  refine Ol.p mvs ?_
  refine Ol.p (lens sl_L_int) ?_
  refine Ol.p mvi ?_
  refine Ol.nil ?_
  refine Cd.block ?_
  refine Cd.loop (fun m σ L => ∃ k, m = l.length - k ∧ k ≤ l.length ∧ Has σ [(0, .slice A l.length c), (1, .func (.func g) fst cap), (7, .int .i64 l.length), (8, .int .i64 k)] ∧ L = [] ∧ ∀ i y, i < k → l[i]? = some y → p y = false) (n := l.length) ⟨0, rfl, Nat.zero_le _, ⟨rfl, rfl, rfl, rfl, trivial⟩, rfl, fun i y h => by omega⟩ ?_
  rintro _ σ L ⟨k, rfl, hk, hs, rfl, hno⟩
  refine Cd.has hs ?_
  refine Cd.seq ?_
  refine Cd.region ?_
  refine Ol.p lsi ?_
  refine Ol.nil ?_
  refine Cd.seq ?_
  refine Cd.cond rfl (fun h => ?_) (fun h => ?_)
  · have hlt : k < l.length := by simpa using h
    refine Cd.skip ?_
    refine Cd.seq ?_
    refine Cd.block ?_
    refine Cd.seq ?_
    refine Cd.region ?_
    refine Ol.p mvi ?_
    refine Ol.p asi ?_
    refine Ol.nil ?_
    refine Cd.seq ?_
    refine Cd.region ?_
    refine Ol.p mvf ?_
    refine Ol.p mvs ?_
    refine Ol.p mvi ?_
    refine Ol.p (ixn1 sl_L_int (Som.slc hl (by omega))) ?_
    refine Ol.p (ld one_int (Rd.slc hl (ints_get hlt))) ?_
    refine Ol.x (sp_callv hf.1 (fun M w' hh => hf.2 _ (List.getElem_mem hlt) w' hh.below)) ?_
    rintro _ _ ⟨_, rfl, rfl, rfl⟩
    refine Ol.nil ?_
    refine Cd.cond rfl (fun h2 => ?_) (fun h2 => ?_)
    · refine Cd.seq ?_
      refine Cd.region ?_
      refine Ol.p mvi ?_
      refine Ol.p asi ?_
      refine Ol.nil ?_
      refine Cd.ret ⟨_, ret1 rfl rfl, [], .nil, ?_, rfl⟩
      rw [indexI_at (List.getElem?_eq_getElem hlt) h2 hno]
      rfl
    · refine Cd.skip ?_
      refine Cd.region ?_
      refine Ol.p addi ?_
      refine Ol.p mvi ?_
      refine Ol.nil ?_
      refine ⟨l.length - (k + 1), by omega, k + 1, rfl, by omega, ⟨rfl, rfl, rfl, rfl, trivial⟩, rfl, ?_⟩
      intro i y hi hy
      rcases Nat.lt_or_ge i k with h3 | h3
      · exact hno i y h3 hy
      · have : i = k := by omega
        subst this
        rw [List.getElem?_eq_getElem hlt] at hy
        cases hy
        exact h2
  · have hge : k = l.length := by
      have : ¬ (k : Int) < l.length := by simpa using h
      omega
    subst hge
    refine Cd.exit (id := 0) ?_
    refine Cd.seq ?_
    refine Cd.region ?_
    refine Ol.p asi ?_
    refine Ol.nil ?_
    refine Cd.ret ⟨_, ret1 rfl rfl, [], .nil, ?_, rfl⟩
    rw [indexI_none hno]
    rfl
theorem slices_ContainsFunc_L_int_int_ct {w : World} {A : Option Addr} {c : Nat} {l : List Int} {g : FuncId} {fst cap : Array Value} {p : Int → Bool} (hl : Reads w w.heap.size 1 A l.length (ints l)) (hb : l.length < 2 ^ 62) (hf : TellsI Tryd.prog w g fst cap l p) :
    Ct Tryd.prog 100 #[.slice A l.length c, .func (.func g) fst cap] w (Is (.bool (l.any p))) := by
  refine Ct.mk Tryd.func100 rfl rfl ?_
  refine Cd.seq ?_
  refine Cd.region ?_
  refine Ol.p asb ?_
  refine Ol.nil ?_
  refine Cd.seq ?_
  refine Cd.region ?_
  refine Ol.p mvs ?_
  refine Ol.p mvf ?_
  refine Ol.s (cl en_slices_IndexFunc_L_int_int (fun M w' hh => slices_IndexFunc_L_int_int_ct (hl.now hh) hb ⟨hf.1, fun n hn w2 h2 => hf.2 n hn w2 (hh.below.trans (h2.mono hh.le))⟩)) ?_
  refine Ol.p gei ?_
  refine Ol.p asb ?_
  refine Ol.nil ?_
  refine Cd.ret ⟨.bool _, ret1 rfl rfl, [], .nil, ?_, rfl⟩
  rw [indexI_ge]
end
theorem Tm.tos (t : Tm) : ∀ (j : Nat) (u : Value), (ints [t.t0, t.t1])[j]? = some u → t.cells.toArray[2 + j]? = some u
  | 0, _, h => h
  | 1, _, h => h
  | _ + 2, _, h => by simp [ints] at h
section
theorem ir_none_1_ct {w : World} {n : Int} : Ct Tryd.prog 108 #[.int .i64 n] w (Is (.bool (!decide (n = 0)))) := by
  refine Ct.mk Tryd.func108 rfl rfl ?_
  refine Cd.seq ?_
  refine Cd.region ?_
  refine Ol.p asb ?_
  refine Ol.nil ?_
  refine Cd.seq ?_
  refine Cd.region ?_
  refine Ol.p mvi ?_
  refine Ol.p nei ?_
  refine Ol.p asb ?_
  refine Ol.nil ?_
  refine Cd.ret ⟨.bool _, ret1 rfl rfl, [], .nil, rfl, rfl⟩
theorem ir_none_ct {w : World} {A : Option Addr} {c : Nat} {l : List Int} (hl : Reads w w.heap.size 1 A l.length (ints l)) (hb : l.length < 2 ^ 62) : Ct Tryd.prog 96 #[.slice A l.length c] w (Is (.bool (noneB l))) := by
  refine Ct.mk Tryd.func96 rfl rfl ?_
  refine Cd.seq ?_
  refine Cd.region ?_
  refine Ol.p asb ?_
  refine Ol.nil ?_
  refine Cd.seq ?_
  refine Cd.region ?_
  refine Ol.p mvs ?_
  refine Ol.s (cl en_slices_ContainsFunc_L_int_int (fun M w' hh => slices_ContainsFunc_L_int_int_ct (g := 108) (fst := #[]) (cap := #[]) (p := fun n => !decide (n = 0)) (hl.now hh) hb ⟨en_ir_none_1, fun n hn w2 h2 => ir_none_1_ct⟩)) ?_
  refine Ol.p noti ?_
  refine Ol.p asb ?_
  refine Ol.nil ?_
  refine Cd.ret ⟨.bool _, ret1 rfl rfl, [], .nil, ?_, rfl⟩
  unfold noneB
  rw [List.not_any_eq_all_not]
  simp
set_option maxHeartbeats 1000000 in
theorem ir_IsTerm_ct {w : World} {t : Tm} : Ct Tryd.prog 74 #[t.val] w (Is (.bool (isTerm t))) := by
  refine Ct.mk Tryd.func74 rfl rfl ?_
  refine Cd.seq ?_
  refine Cd.region ?_
  refine Ol.x bxg ?_
  rintro _ _ ⟨g1, rfl, rfl⟩
  refine Ol.p asb ?_
  refine Ol.nil ?_
  refine Cd.seq ?_
  refine Cd.seq ?_
  refine Cd.region ?_
  refine Ol.p (fdl fd_api_Term_0) ?_
  refine Ol.p (ld one_api_TermKind (Rd.blk (i := 0) rfl rfl)) ?_
  refine Ol.nil ?_
  refine Cd.block ?_
  refine Cd.seq ?_
  refine Cd.region ?_
  refine Ol.p eqi ?_
  refine Ol.p asb ?_
  refine Ol.nil ?_
  refine Cd.cond rfl (fun h1 => ?_) (fun h1 => ?_)
  · refine Cd.seq ?_
    refine Cd.region ?_
    refine Ol.p (fdl fd_api_Term_1) ?_
    refine Ol.p (ld one_int (Rd.blk (i := 0) rfl rfl)) ?_
    refine Ol.p (fdl fd_api_Term_2) ?_
    refine Ol.p (ixl (ix := 1) ar_A2_int) ?_
    refine Ol.p (ld one_int (Rd.blk (i := 0) rfl rfl)) ?_
    refine Ol.x (bsv [.int .i64 t.a, .int .i64 t.t1] sl_L_int zr_int (by simp [Value.cells])) ?_
    rintro _ _ ⟨g12, rfl, rfl⟩
    refine Ol.s (cl en_ir_none (fun M w' hh => ir_none_ct (l := [t.a, t.t1]) (Reads.row hh (i := 0) rfl) (by simp))) ?_
    refine Ol.p asb ?_
    refine Ol.nil ?_
    refine Cd.ret ⟨.bool _, ret1 rfl rfl, [], .nil, ?_, rfl⟩
    unfold isTerm; rw [h1]; rfl
  · refine Cd.seq ?_
    refine Cd.region ?_
    refine Ol.p eqi ?_
    refine Ol.p asb ?_
    refine Ol.nil ?_
    refine Cd.cond rfl (fun h2 => ?_) (fun h2 => ?_)
    · refine Cd.seq ?_
      refine Cd.region ?_
      refine Ol.p (fdl fd_api_Term_1) ?_
      refine Ol.p (ld one_int (Rd.blk (i := 0) rfl rfl)) ?_
      refine Ol.s (cl en_ir_variable (fun M w' hh => ir_variable_ct)) ?_
      refine Ol.p asb ?_
      refine Ol.nil ?_
      refine Cd.ret ⟨.bool _, ret1 rfl rfl, [], .nil, ?_, rfl⟩
      unfold isTerm; rw [h1, h2]; rfl
    · refine Cd.seq ?_
      refine Cd.region ?_
      refine Ol.p eqi ?_
      refine Ol.p asb ?_
      refine Ol.nil ?_
      refine Cd.cond rfl (fun h3 => ?_) (fun h3 => ?_)
      · refine Cd.seq ?_
        cases h4 : fitsB (!decide (t.a = 0)) t.a with
        | true =>
          refine Cd.region ?_
          refine Ol.p (fdl fd_api_Term_1) ?_
          refine Ol.p (ld one_int (Rd.blk (i := 0) rfl rfl)) ?_
          refine Ol.p nei ?_
          refine Ol.p (fdl fd_api_Term_1) ?_
          refine Ol.p (ld one_int (Rd.blk (i := 0) rfl rfl)) ?_
          refine Ol.s (cl en_ir_fits (fun M w' hh => ir_fits_ct)) ?_
          refine Ol.p mvb ?_
          refine Ol.gp h4 (fdl fd_api_Term_2) ?_
          refine Ol.gp h4 (sla ar_A2_int) ?_
          refine Ol.gs h4 (cl en_ir_none (fun M w' hh => ir_none_ct (l := [t.t0, t.t1]) (Reads.blk hh (i := 0) rfl rfl t.tos) (by simp))) ?_
          refine Ol.p (pkTb h4) ?_
          refine Ol.p asb ?_
          refine Ol.nil ?_
          refine Cd.ret ⟨.bool _, ret1 rfl rfl, [], .nil, ?_, rfl⟩
          unfold isTerm; rw [h1, h2, h3, h4]; rfl
        | false =>
          refine Cd.region ?_
          refine Ol.p (fdl fd_api_Term_1) ?_
          refine Ol.p (ld one_int (Rd.blk (i := 0) rfl rfl)) ?_
          refine Ol.p nei ?_
          refine Ol.p (fdl fd_api_Term_1) ?_
          refine Ol.p (ld one_int (Rd.blk (i := 0) rfl rfl)) ?_
          refine Ol.s (cl en_ir_fits (fun M w' hh => ir_fits_ct)) ?_
          refine Ol.p mvb ?_
          refine Ol.gn h4 ?_
          refine Ol.gn h4 ?_
          refine Ol.gn h4 ?_
          refine Ol.p (pkFb h4) ?_
          refine Ol.p asb ?_
          refine Ol.nil ?_
          refine Cd.ret ⟨.bool _, ret1 rfl rfl, [], .nil, ?_, rfl⟩
          unfold isTerm; rw [h1, h2, h3, h4]; rfl
      · refine Cd.skip ?_
        refine Cd.seq ?_
        cases h4 : decide (t.kind = 4) with
        | true =>
          refine Cd.region ?_
          refine Ol.p (fdl fd_api_Term_0) ?_
          refine Ol.p (ld one_api_TermKind (Rd.blk (i := 0) rfl rfl)) ?_
          refine Ol.p eqi ?_
          refine Ol.p mvb ?_
          refine Ol.gp h4 (fdl fd_api_Term_1) ?_
          refine Ol.gp h4 (ld one_int (Rd.blk (i := 0) rfl rfl)) ?_
          refine Ol.gp h4 (fdl fd_api_Term_2) ?_
          refine Ol.gp h4 (ixl (ix := 0) ar_A2_int) ?_
          refine Ol.gp h4 (ld one_int (Rd.blk (i := 0) rfl rfl)) ?_
          refine Ol.gp h4 (fdl fd_api_Term_2) ?_
          refine Ol.gp h4 (ixl (ix := 1) ar_A2_int) ?_
          refine Ol.gp h4 (ld one_int (Rd.blk (i := 0) rfl rfl)) ?_
          refine Ol.gx h4 (bsv [.int .i64 t.a, .int .i64 t.t0, .int .i64 t.t1] sl_L_int zr_int (by simp [Value.cells])) ?_
          rintro _ _ ⟨g44, rfl, rfl⟩
          refine Ol.gs h4 (cl en_ir_none (fun M w' hh => ir_none_ct (l := [t.a, t.t0, t.t1]) (Reads.row hh (i := 0) rfl) (by simp))) ?_
          refine Ol.p (pkTb h4) ?_
          refine Ol.p asb ?_
          refine Ol.nil ?_
          refine Cd.ret ⟨.bool _, ret1 rfl rfl, [], .nil, ?_, rfl⟩
          unfold isTerm; rw [h1, h2, h3, h4]; rfl
        | false =>
          refine Cd.region ?_
          refine Ol.p (fdl fd_api_Term_0) ?_
          refine Ol.p (ld one_api_TermKind (Rd.blk (i := 0) rfl rfl)) ?_
          refine Ol.p eqi ?_
          refine Ol.p mvb ?_
          refine Ol.gn h4 ?_
          refine Ol.gn h4 ?_
          refine Ol.gn h4 ?_
          refine Ol.gn h4 ?_
          refine Ol.gn h4 ?_
          refine Ol.gn h4 ?_
          refine Ol.gn h4 ?_
          refine Ol.gn h4 ?_
          refine Ol.gn h4 ?_
          refine Ol.gn h4 ?_
          refine Ol.p (pkFb h4) ?_
          refine Ol.p asb ?_
          refine Ol.nil ?_
          refine Cd.ret ⟨.bool _, ret1 rfl rfl, [], .nil, ?_, rfl⟩
          unfold isTerm; rw [h1, h2, h3, h4]; rfl
end
section
theorem slices_Clone_L_int_int_ct {w : World} {A : Option Addr} {c n : Nat} {xs : List Value} (hl : Reads w w.heap.size 1 A n xs) (h1 : ∀ u ∈ xs, u.oneCell' = true) (hb : n < 2 ^ 43) : Ct Tryd.prog 75 #[.slice A n c] w (NewL 3 1 n xs) := by
  refine Ct.mk Tryd.func75 rfl rfl ?_
  refine Cd.seq ?_
  refine Cd.region ?_
  refine Ol.p ass ?_
  refine Ol.nil ?_
  refine Cd.seq ?_
  refine Cd.seq ?_
  refine Cd.region ?_
  refine Ol.p mvs ?_
  refine Ol.p (esn sl_L_int) ?_
  refine Ol.nil ?_
  refine Cd.cond rfl (fun h => ?_) (fun h => ?_)
  · refine Cd.seq ?_
    refine Cd.region ?_
    refine Ol.p ass ?_
    refine Ol.nil ?_
    refine Cd.nr 3 1 ?_
    have h0 : n = 0 := by
      rcases Nat.eq_zero_or_pos n with h0 | h0
      · exact h0
      · obtain ⟨a, rfl, _⟩ := hl.2 h0; cases h
    subst h0
    have hx : xs = [] := List.eq_nil_of_length_eq_zero (by simpa using hl.1)
    subst hx
    refine Cd.ret ⟨.slice none 0 0, ret1 rfl rfl, _, .all, none, 0, rfl, rfl⟩
  · refine Cd.skip ?_
    refine Cd.seq ?_
    refine Cd.region ?_
    refine Ol.x (bsv [] sl_L_int zr_int (by simp)) ?_
    rintro _ _ ⟨g5, rfl, rfl⟩
    refine Ol.p mvs ?_
    refine Ol.x (apn (i := 0) (n := 0) (xs := []) sl_L_int zr_int rfl (by decide) rfl (Src.slc hl) h1 (by unfold maxLen; omega) (by omega)) ?_
    rintro _ _ ⟨A', c', rfl, rfl⟩
    refine Ol.p ass ?_
    refine Ol.nil ?_
    rw [Nat.zero_add]
    refine Cd.ret ⟨.slice A' n c', ret1 rfl rfl, _, .all, A', c', rfl, rfl⟩
end
section
set_option maxHeartbeats 1000000 in
theorem ir_To_ct {w : World} {t : Tm} : Ct Tryd.prog 42 #[t.val] w (NewL 3 1 (toL t).length (ints (toL t))) := by
  refine Ct.mk Tryd.func42 rfl rfl ?_
  refine Cd.seq ?_
  refine Cd.region ?_
  refine Ol.x bxg ?_
  rintro _ _ ⟨g1, rfl, rfl⟩
  refine Ol.p ass ?_
  refine Ol.nil ?_
  refine Cd.seq ?_
  refine Cd.block ?_
  refine Cd.seq ?_
  refine Cd.region ?_
  refine Ol.p (ldw ag_api_Term (i := 0) rfl rfl) ?_
  refine Ol.s (cl en_ir_IsTerm (fun M w' hh => ir_IsTerm_ct (t := t))) ?_
  refine Ol.p noti ?_
  refine Ol.p asb ?_
  refine Ol.nil ?_
  refine Cd.cond rfl (fun h1 => ?_) (fun h1 => ?_)
  · have e : toL t = [] := by unfold toL; cases h : isTerm t <;> simp [h] at h1 ⊢
    rw [e]
    refine Cd.skip ?_
    refine Cd.seq ?_
    refine Cd.region ?_
    refine Ol.p ass ?_
    refine Ol.nil ?_
    refine Cd.nr 3 1 ?_
    refine Cd.ret ⟨.slice none 0 0, ret1 rfl rfl, _, .sub (.cons_cons _ (.cons _ .slnil)), none, 0, rfl, rfl⟩
  · have e1 : isTerm t = true := by simpa using h1
    refine Cd.seq ?_
    refine Cd.region ?_
    refine Ol.p (fdl fd_api_Term_0) ?_
    refine Ol.p (ld one_api_TermKind (Rd.blk (i := 0) rfl rfl)) ?_
    refine Ol.p eqi ?_
    refine Ol.p asb ?_
    refine Ol.nil ?_
    refine Cd.cond rfl (fun h2 => ?_) (fun h2 => ?_)
    · have e : toL t = [t.t0] := by unfold toL; rw [e1, h2]; rfl
      rw [e]
      refine Cd.seq ?_
      refine Cd.region ?_
      refine Ol.p (fdl fd_api_Term_2) ?_
      refine Ol.p (ixl (ix := 0) ar_A2_int) ?_
      refine Ol.p (ld one_int (Rd.blk (i := 0) rfl rfl)) ?_
      refine Ol.x (bsv [.int .i64 t.t0] sl_L_int zr_int (by simp [Value.cells])) ?_
      rintro _ _ ⟨g14, rfl, rfl⟩
      refine Ol.p ass ?_
      refine Ol.nil ?_
      refine Cd.ret ⟨.slice _ _ _, ret1 rfl rfl, _, .sub (.cons_cons _ (.cons _ .slnil)), _, _, rfl, rfl⟩
    · refine Cd.seq ?_
      refine Cd.region ?_
      refine Ol.p (fdl fd_api_Term_0) ?_
      refine Ol.p (ld one_api_TermKind (Rd.blk (i := 0) rfl rfl)) ?_
      refine Ol.p eqi ?_
      refine Ol.p asb ?_
      refine Ol.nil ?_
      refine Cd.cond rfl (fun h3 => ?_) (fun h3 => ?_)
      · have e : toL t = [t.t0, t.t1] := by unfold toL; rw [e1, h2, h3]; rfl
        rw [e]
        refine Cd.seq ?_
        refine Cd.region ?_
        refine Ol.p (fdl fd_api_Term_2) ?_
        refine Ol.p (sla ar_A2_int) ?_
        refine Ol.x (sp_call en_slices_Clone_L_int_int (fun M w' hh => slices_Clone_L_int_int_ct (xs := ints [t.t0, t.t1]) (Reads.blk hh (i := 0) rfl rfl t.tos) (ints_one _) (by simp [ints]))) ?_
        rintro _ _ ⟨_, rfl, A, c, rfl, rfl⟩
        refine Ol.p ass ?_
        refine Ol.nil ?_
        refine Cd.ret ⟨.slice _ _ _, ret1 rfl rfl, _, .sub (.cons_cons _ (.cons _ .slnil)), _, _, rfl, rfl⟩
      · have e : toL t = [] := by unfold toL; rw [e1, h2, h3]; rfl
        rw [e]
        refine Cd.skip ?_
        refine Cd.seq ?_
        refine Cd.region ?_
        refine Ol.p ass ?_
        refine Ol.nil ?_
        refine Cd.nr 3 1 ?_
        refine Cd.ret ⟨.slice none 0 0, ret1 rfl rfl, _, .sub (.cons_cons _ (.cons _ .slnil)), none, 0, rfl, rfl⟩
end
end Go.Proofs.YtbcnejobnmljlaaDoor

/- Instructions and whole functions: plain definitions and laws (no program in sight). -/
namespace Go.Proofs.YtbcnejobnmljlaaDoor
set_option linter.unusedVariables false
open Go Go.RowKit

/-! ### Instructions -/
structure Shp where
  dst : Bool
  a : Bool
  b : Bool
  imm : Bool
  call : Bool
def shp (o : Int) : Shp × Bool :=
  bif decide (o = 13) then (⟨false, false, false, false, true⟩, true) else bif decide (o = 1) then (⟨true, false, false, true, false⟩, true) else
  bif decide (o = 12) then (⟨false, true, true, true, false⟩, true) else bif decide (o = 11) then (⟨true, true, false, true, false⟩, true) else
  bif decide (o = 14) then (⟨true, true, false, false, false⟩, true) else (⟨true, true, true, false, false⟩, decide (2 ≤ o) && decide (o ≤ 10))
def Shp.cells (s : Shp) : List Value := [.bool s.dst, .bool s.a, .bool s.b, .bool s.imm, .bool s.call]
def Shp.val (s : Shp) : Value := .agg s.cells.toArray
def isIns (i : RIns) : Bool :=
  bif !(shp i.op).2 || !decide (i.many = 0) then false else
  bif (shp i.op).1.call then noneB [i.a, i.b, i.imm] && (decide (0 ≤ i.callee) && decide (i.callee ≤ 99)) && fitsB (!decide (i.dst = 0)) i.dst && decide (i.args.length ≤ 8) && i.args.all varB else
  bif (!(shp i.op).1.imm && !decide (i.imm = 0)) || decide (i.imm < -1099511627776) || decide (1099511627776 < i.imm) then false else
  decide (i.callee = 0) && decide (i.args.length = 0) && fitsB (shp i.op).1.dst i.dst && fitsB (shp i.op).1.a i.a && fitsB (shp i.op).1.b i.b
def readsL (i : RIns) : List Int := bif isIns i then [i.a, i.b].filter (fun n => !decide (n = 0)) ++ i.args else []
def defI (i : RIns) : Int := bif isIns i then i.dst else 0
def needsL (t : Tm) : List Int := bif isTerm t && !decide (t.a = 0) then [t.a] else []
theorem varB_iff {n : Int} : varB n = true ↔ 1 ≤ n ∧ n ≤ 200 := by simp [varB]
theorem fitsB_var {h : Bool} {n : Int} (hf : fitsB h n = true) : n = 0 ∨ (1 ≤ n ∧ n ≤ 200) := by
  cases h <;> simp [fitsB, varB] at hf
  · exact .inl hf
  · exact .inr hf
theorem isIns_parts {i : RIns} (h : isIns i = true) : (i.dst = 0 ∨ (1 ≤ i.dst ∧ i.dst ≤ 200)) ∧ (i.a = 0 ∨ (1 ≤ i.a ∧ i.a ≤ 200)) ∧ (i.b = 0 ∨ (1 ≤ i.b ∧ i.b ≤ 200)) ∧ (∀ n ∈ i.args, 1 ≤ n ∧ n ≤ 200) ∧ i.args.length ≤ 8 := by
  unfold isIns at h
  cases h1 : (!(shp i.op).2 || !decide (i.many = 0)) with
  | true => rw [h1] at h; cases h
  | false =>
    rw [h1, cond_false] at h
    cases h2 : (shp i.op).1.call with
    | true =>
      rw [h2, cond_true] at h
      simp only [Bool.and_eq_true, decide_eq_true_eq, noneB, List.all_cons, List.all_nil, Bool.and_true, List.all_eq_true] at h
      obtain ⟨⟨⟨⟨⟨ha, hb, _⟩, _⟩, hd⟩, hl⟩, hr⟩ := h
      refine ⟨fitsB_var hd, .inl ha, .inl hb, fun n hn => varB_iff.1 (hr n hn), hl⟩
    | false =>
      rw [h2, cond_false] at h
      cases h3 : ((!(shp i.op).1.imm && !decide (i.imm = 0)) || decide (i.imm < -1099511627776) || decide (1099511627776 < i.imm)) with
      | true => rw [h3] at h; cases h
      | false =>
        rw [h3, cond_false] at h
        simp only [Bool.and_eq_true, decide_eq_true_eq] at h
        obtain ⟨⟨⟨⟨_, hl⟩, hd⟩, ha⟩, hb⟩ := h
        refine ⟨fitsB_var hd, fitsB_var ha, fitsB_var hb, fun n hn => ?_, by omega⟩
        rw [List.eq_nil_of_length_eq_zero hl] at hn
        cases hn
theorem readsL_mem {i : RIns} {n : Int} (h : n ∈ readsL i) : 1 ≤ n ∧ n ≤ 200 := by
  unfold readsL at h
  cases hi : isIns i with
  | false => rw [hi] at h; cases h
  | true =>
    rw [hi, cond_true] at h
    obtain ⟨_, ha, hb, hr, _⟩ := isIns_parts hi
    rcases List.mem_append.1 h with h | h
    · simp only [List.mem_filter, List.mem_cons, List.not_mem_nil, or_false, Bool.not_eq_true', decide_eq_false_iff_not] at h
      rcases h with ⟨rfl | rfl, h0⟩ <;> omega
    · exact hr n h
theorem readsL_len (i : RIns) : (readsL i).length ≤ 10 := by
  unfold readsL
  cases hi : isIns i with
  | false => simp
  | true =>
    rw [cond_true, List.length_append]
    have := (isIns_parts hi).2.2.2.2
    have h2 : ([i.a, i.b].filter (fun n => !decide (n = 0))).length ≤ [i.a, i.b].length := List.length_filter_le _ _
    simp only [List.length_cons, List.length_nil] at h2
    omega
theorem defI_range (i : RIns) : 0 ≤ defI i ∧ defI i ≤ 200 := by
  unfold defI
  cases hi : isIns i with
  | false => simp
  | true => rw [cond_true]; have := (isIns_parts hi).1; omega
theorem isTerm_a {t : Tm} (h : isTerm t = true) : t.a = 0 ∨ (1 ≤ t.a ∧ t.a ≤ 200) := by
  unfold isTerm at h
  cases h1 : decide (t.kind = 1) with
  | true => rw [h1, cond_true] at h; simp [noneB] at h; exact .inl h.1
  | false =>
    rw [h1, cond_false] at h
    cases h2 : decide (t.kind = 2) with
    | true => rw [h2, cond_true] at h; exact .inr (varB_iff.1 h)
    | false =>
      rw [h2, cond_false] at h
      cases h3 : decide (t.kind = 3) with
      | true => rw [h3, cond_true, Bool.and_eq_true] at h; exact fitsB_var h.1
      | false => rw [h3, cond_false] at h; simp [noneB] at h; exact .inl h.2.1
theorem needsL_mem {t : Tm} {n : Int} (h : n ∈ needsL t) : n = t.a ∧ 1 ≤ n ∧ n ≤ 200 := by
  unfold needsL at h
  cases hi : isTerm t && !decide (t.a = 0) with
  | false => rw [hi] at h; cases h
  | true =>
    rw [hi, cond_true] at h
    have : n = t.a := by simpa using h
    subst this
    simp only [Bool.and_eq_true, Bool.not_eq_true', decide_eq_false_iff_not] at hi
    have := isTerm_a hi.1
    exact ⟨rfl, by omega, by omega⟩
theorem needsL_len (t : Tm) : (needsL t).length ≤ 1 := by
  unfold needsL
  cases isTerm t && !decide (t.a = 0) <;> simp

/-! ### Sets of variables: arrays of 201 truths -/
abbrev VS := Nat → Bool
def encV (f : VS) : Array Value := ((List.range 201).map fun i => Value.bool (f i)).toArray
theorem encV_size (f : VS) : (encV f).size = 201 := by simp [encV]
theorem encV_get {f : VS} {i : Nat} (h : i < 201) : (encV f)[i]? = some (.bool (f i)) := by simp [encV, h]
def putV (f : VS) (k : Nat) (b : Bool) : VS := fun i => if i = k then b else f i
theorem encV_set {f : VS} {k : Nat} {b : Bool} : (encV f).setIfInBounds k (.bool b) = encV (putV f k b) := by
  apply Array.ext
  · simp [encV]
  · intro i h1 h2
    simp only [encV, List.setIfInBounds_toArray, List.getElem_toArray, putV]
    rw [List.getElem_set]
    by_cases h : k = i
    · subst h; simp
    · rw [if_neg h]; simp [Ne.symm h]
theorem encV_congr {f g : VS} (h : ∀ i, i < 201 → f i = g i) : encV f = encV g := by
  unfold encV
  congr 1
  apply List.map_congr_left
  intro i hi
  rw [h i (by simpa using hi)]
theorem encV_inj {f g : VS} (h : encV f = encV g) {i : Nat} (hi : i < 201) : f i = g i := by
  have h1 : (encV f)[i]? = (encV g)[i]? := by rw [h]
  rw [encV_get hi, encV_get hi] at h1
  simpa using h1
theorem encV_one (f : VS) : ∀ u ∈ (encV f).toList, u.oneCell' = true := by
  intro u hu
  simp only [encV, List.mem_map] at hu
  obtain ⟨i, _, rfl⟩ := hu
  rfl
def hasV (f : VS) (l : List Int) : Bool := l.all fun v => f v.toNat
def putsV (f : VS) (l : List Int) (b : Bool) : VS := l.foldl (fun f v => putV f v.toNat b) f

/-! ### Whole functions -/
def longF (f : RFun) : Bool := decide (f.blocks.length = 0) || decide (200 < f.blocks.length) || decide (8 < f.params.length) || f.blocks.any fun b => decide (64 < b.ins.length)
def wholeB (b : RBlk) : Bool := isTerm b.term && b.ins.all isIns
def wholeF (f : RFun) : Bool := f.params.all varB && decide f.params.Nodup && f.blocks.all wholeB
/-- Is v read from here on, ahead of being defined? -/
def exposed : List RIns → Tm → Int → Bool
  | [], t, v => (needsL t).contains v
  | i :: l, t, v => (readsL i).contains v || (!decide (defI i = v) && exposed l t v)
def defines (l : List RIns) (v : Int) : Bool := l.any fun i => decide (defI i = v)
end Go.Proofs.YtbcnejobnmljlaaDoor

/- Further rules: parts of tuples, conversions with known results, copy, appending to what is new. Over any program. -/
namespace Go.Proofs.YtbcnejobnmljlaaDoor
set_option linter.unusedVariables false
open Go Go.RowKit

theorem extv {P : Program} {w0 : World} {B : Nat} {σ : Env} {L : List Res} {d : Option Nat} {ty : TypeId} {pos : String} {af : Array Edge} {gd : Option (Nat × Bool)} {x : Operand} {v : Value} {vs : Array Value} {i : Nat} (hx : ev σ x = .tuple vs := by exact rfl) (hv : vs[i]? = some v := by exact rfl) : Sd P w0 B ⟨d, .extract x i, ty, pos, af, gd⟩ σ L (v) := exti hv hx
theorem cvx {P : Program} {w0 : World} {B : Nat} {σ : Env} {L : List Res} {d : Option Nat} {ty T u : TypeId} {pos : String} {af : Array Edge} {gd : Option (Nat × Bool)} {x : Operand} {k k2 : IntKind} {a r : Int} {t : TypeDesc} (hs : P.underlying T = some t) (hd : InT P u k2) (hr : k2.wrap a = r) (hx : ev σ x = .int k a := by exact rfl) : Sd P w0 B ⟨d, .convert T u x, ty, pos, af, gd⟩ σ L ((.int k2 r)) := by
  rw [← hr]; exact cvw hs hd hx
theorem cpb {P : Program} {w0 : World} {B : Nat} {σ : Env} {L : List Res} {d : Option Nat} {ty T T2 : TypeId} {pos : String} {af : Array Edge} {gd : Option (Nat × Bool)} {x y : Operand} {i g off n c e s b m c2 q : Nat} {A2 : Option Addr} {cs : Array Value} {ys : List Value} (hT : SlT P T e s b) (hi : L[i]? = some (blk g (.cells cs e))) (hsrc : Src w0 B L A2 m s ys) (h1 : ∀ u ∈ ys, u.oneCell' = true) (hq : q = Nat.min m n) (hfit : off + q * s ≤ cs.size)
    (hx : ev σ x = .slice (some ⟨g, off, none⟩) n c := by exact rfl) (hy : ev σ y = .slice A2 m c2 := by exact rfl) :
    Sp P w0 B ⟨d, .call { callee := .builtin .copy, args := #[x, y], argTypes := #[T, T2] }, ty, pos, af, gd⟩ σ L (det (.int .i64 q) (L.set i (blk g (.cells ((cs.toList.take off ++ ys.take (q * s) ++ cs.toList.drop (off + q * s)).toArray) e)))) := fun M w hh => by
  obtain ⟨inf, hi1, he⟩ := info_of hT.2
  simp only [Prod.mk.injEq] at he
  have hlen := hsrc.1
  have hqm : q ≤ m := by rw [hq]; exact Nat.min_le_left _ _
  have hys : (ys.take (q * s)).length = q * s := by
    rw [List.length_take, hlen]
    exact Nat.min_eq_left (Nat.mul_le_mul_right _ hqm)
  have hc : (Builtin.firstCells inf.size q (.slice A2 m c2)).run P w = .ok (ys.take (q * s)).toArray w := by
    rcases hsrc.2 M w hh with ⟨rfl, rfl⟩ | ⟨a, rfl, hcell⟩
    · have : q = 0 := by omega
      subst this
      rw [run_firstCells_none]; simp
    · refine run_firstCells_some (P := P) w inf.size q a m c2 _ (by rw [hys, he.1]) fun j v hj => ?_
      rw [List.getElem?_take] at hj
      split at hj
      · exact hcell j v hj
      · cases hj
  obtain ⟨w', hr, hst, hb⟩ := run_storeCells_all (P := P) (g := g) (e := e) (ys.take (q * s)) off 0 cs w (hh.at_ hi) (by rw [hys]; omega) (fun u hu => h1 u (List.mem_of_mem_take hu))
  rw [hys] at hb
  simp only [Nat.add_zero] at hb
  refine .inl ⟨.int .i64 q, w', ?_, _, hh.set (r' := blk g (.cells ((cs.toList.take off ++ ys.take (q * s) ++ cs.toList.drop (off + q * s)).toArray) e)) hi hst hb (fun _ hk => .inl hk), rfl, rfl⟩
  simp only [execOp, resolve, invoke, builtin, Sem.run_bind, Sem.run_pure, Result.andThen_ok, List.map_toArray, List.map_cons, List.map_nil, hx, hy]
  have hsz : (sizeOf e).run P w = .ok inf.size w := run_size (by simp [hi1]) w
  have : (Builtin.copy_ #[T, T2] ty #[.slice (some ⟨g, off, none⟩) n c, .slice A2 m c2]).run P w = .ok (.int .i64 q) w' := by
    simp only [Builtin.copy_]
    simp only [Sem.run_bind, run_underlying hT.1, Result.andThen_ok, Builtin.lenOf, Sem.run_pure, hsz, List.getElem?_toArray, List.getElem?_cons_zero, List.getElem?_cons_succ]
    rw [← hq, hc]
    simp only [Result.andThen_ok]
    rw [hr]
    rfl
  rw [this]
  rfl
theorem Grow.adds {P : Program} {w0 : World} {B : Nat} {σ : Env} {r : Res} {L : List Res} {o : Oper} {e s n : Nat} {xs : List Value} (h : Sp P w0 B o σ (r :: L) (Grow 0 e s n xs (r :: L))) : Sp P w0 B o σ (r :: L) (Adds (NewL e s n xs) L) := fun M w hh =>
  Goes.mono (h M w hh) fun v w' ⟨L', h1, A, c, h2, h3⟩ => ⟨L', h1, [row (.slice A n c) e s n xs], h3, A, c, h2, rfl⟩
theorem ap0 {P : Program} {w0 : World} {B : Nat} {σ : Env} {L : List Res} {d : Option Nat} {ty T : TypeId} {pos : String} {af : Array Edge} {gd : Option (Nat × Bool)} {x y : Operand} {e s b c m c2 : Nat} {A A2 : Option Addr} {ys : List Value} {zv : Value} (hT : SlT P T e s b) (hz : ZrT P e zv) (hzs : zv.cells.size = s) (hs0 : 0 < s) (hsrc : Src w0 B (row (.slice A 0 c) e s 0 [] :: L) A2 m s ys)
    (h1 : ∀ u ∈ ys, u.oneCell' = true) (hml : m ≤ maxLen) (hby : m * b ≤ 140737488355328) (hx : ev σ x = .slice A 0 c := by exact rfl) (hy : ev σ y = .slice A2 m c2 := by exact rfl) :
    Sp P w0 B ⟨d, .call { callee := .builtin .append, args := #[x, y], argTypes := #[T, T] }, ty, pos, af, gd⟩ σ (row (.slice A 0 c) e s 0 [] :: L) (Adds (NewL e s m ys) L) := by
  have := Grow.adds (apn (d := d) (ty := ty) (pos := pos) (af := af) (gd := gd) (i := 0) (n := 0) (m := m) (L := row (.slice A 0 c) e s 0 [] :: L) hT hz hzs hs0 rfl hsrc h1 (by omega) (by rw [Nat.zero_add]; exact hby) hx hy)
  rw [Nat.zero_add, List.nil_append] at this
  exact this
/-- One that was there has been turned. -/
def Trn (v : Value) (r : Res) : Value → List Res → Prop := fun v' R => v' = v ∧ R = [r]
theorem det.trn {P : Program} {w0 : World} {B : Nat} {σ : Env} {r r' : Res} {L : List Res} {o : Oper} {v : Value} (h : Sp P w0 B o σ (r :: L) (det v (r' :: L))) : Sp P w0 B o σ (r :: L) (Adds (Trn v r') L) := fun M w hh =>
  Goes.mono (h M w hh) fun v w' ⟨L', h1, h2, h3⟩ => ⟨L', h1, [r'], h3, h2, rfl⟩
end Go.Proofs.YtbcnejobnmljlaaDoor

/- The package ir: instructions, what they read and define; ends, what they need: walked. -/
namespace Go.Proofs.YtbcnejobnmljlaaDoor
set_option linter.unusedVariables false
open Go Go.RowKit
set_option maxRecDepth 100000

theorem uint_le99 {n : Int} (h : -9223372036854775808 ≤ n ∧ n ≤ 9223372036854775807) : decide (IntKind.u64.wrap n ≤ 99) = (decide (0 ≤ n) && decide (n ≤ 99)) := by
  rw [Bool.eq_iff_iff, Bool.and_eq_true, decide_eq_true_iff, decide_eq_true_iff, decide_eq_true_iff]
  have : IntKind.u64.wrap n = n % 18446744073709551616 := rfl
  rw [this]
  constructor
  · intro h1; omega
  · intro h1; omega
/-- An instruction that can be read. -/
structure InsAt (w : World) (i : RIns) : Prop where
  args : Reads w w.heap.size 1 i.aA i.args.length (ints i.args)
  len : i.args.length < 2 ^ 50
  callee : -9223372036854775808 ≤ i.callee ∧ i.callee ≤ 9223372036854775807
theorem InsAt.now {w0 w : World} {L : List Res} {i : RIns} (h : InsAt w0 i) (hh : Hp w0 w0.heap.size L w) : InsAt w i := ⟨h.args.now hh, h.len, h.callee⟩
theorem not_any_var (l : List Int) : (!l.any fun v => !varB v) = l.all varB := by
  rw [List.not_any_eq_all_not]
  congr 1
  funext v
  simp
theorem shp_one (s : Shp) : ∀ u ∈ s.cells, u.oneCell' = true := by
  intro u hu
  unfold Shp.cells at hu
  simp only [List.mem_cons, List.not_mem_nil, or_false] at hu
  rcases hu with rfl | rfl | rfl | rfl | rfl <;> rfl
section
theorem ir_shaped_ct {w : World} {o : Int} : Ct Tryd.prog 98 #[.int .i64 o] w (Is (.tuple #[(shp o).1.val, .bool (shp o).2])) := by
  refine Ct.mk Tryd.func98 rfl rfl ?_
  refine Cd.seq ?_
  refine Cd.region ?_
  refine Ol.x (alc zr_ir_shape) ?_
  rintro _ _ ⟨g2, rfl, rfl⟩
  refine Ol.p asb ?_
  refine Ol.nil ?_
  refine Cd.seq ?_
  refine Cd.seq ?_
  refine Cd.region ?_
  refine Ol.p mvi ?_
  refine Ol.nil ?_
  refine Cd.block ?_   -- 0
  refine Cd.mid (fun σ' L' => ((o = 11 ∧ L' = [blk g2 (.cells #[.bool false, .bool false, .bool false, .bool true, .bool false] 135)]) ∨ (o = 14 ∧ L' = [blk g2 (.cells #[.bool false, .bool false, .bool false, .bool false, .bool false] 135)])) ∧ Has σ' [(2, .pointer (some ⟨g2, 0, none⟩))] ∧ o ≠ 13 ∧ o ≠ 1 ∧ o ≠ 12) ?_ ?_
  · refine Cd.block ?_   -- 5
    refine Cd.seq ?_
    refine Cd.block ?_   -- 4
    refine Cd.seq ?_
    refine Cd.block ?_   -- 3
    refine Cd.seq ?_
    refine Cd.block ?_   -- 2
    refine Cd.seq ?_
    refine Cd.block ?_   -- 1
    refine Cd.seq ?_
    refine Cd.seq ?_
    refine Cd.seq ?_
    refine Cd.region ?_
    refine Ol.p eqi ?_
    refine Ol.p asb ?_
    refine Ol.nil ?_
    refine Cd.cond rfl (fun h13 => ?_) (fun h13 => ?_)   -- $5
    · refine Cd.exit (id := 1) ?_
      refine Cd.seq ?_
      refine Cd.seq ?_
      refine Cd.region ?_
      refine Ol.p (bds bs_ir_shape zr_ir_shape) ?_
      refine Ol.s (stw (vs := (Shp.cells ⟨false,false,false,false,true⟩).toArray) sz_ir_shape rfl (shp_one ⟨false,false,false,false,true⟩) (i := 0) rfl rfl) ?_
      refine Ol.p asb ?_
      refine Ol.nil ?_
      refine Cd.ret ⟨.tuple _, retct rfl ag_ir_shape rfl rfl (i := 0) rfl rfl, [], .nil, ?_, rfl⟩
      unfold shp; rw [h13]; rfl
    refine Cd.skip ?_
    refine Cd.seq ?_
    refine Cd.seq ?_
    refine Cd.region ?_
    refine Ol.p eqi ?_
    refine Ol.p asb ?_
    refine Ol.nil ?_
    refine Cd.cond rfl (fun h1 => ?_) (fun h1 => ?_)   -- $7
    · refine Cd.exit (id := 2) ?_
      refine Cd.seq ?_
      refine Cd.seq ?_
      refine Cd.region ?_
      refine Ol.p (bds bs_ir_shape zr_ir_shape) ?_
      refine Ol.s (stw (vs := (Shp.cells ⟨true,false,false,true,false⟩).toArray) sz_ir_shape rfl (shp_one ⟨true,false,false,true,false⟩) (i := 0) rfl rfl) ?_
      refine Ol.p asb ?_
      refine Ol.nil ?_
      refine Cd.ret ⟨.tuple _, retct rfl ag_ir_shape rfl rfl (i := 0) rfl rfl, [], .nil, ?_, rfl⟩
      unfold shp; rw [h13, h1]; rfl
    refine Cd.skip ?_
    refine Cd.seq ?_
    refine Cd.seq ?_
    refine Cd.region ?_
    refine Ol.p eqi ?_
    refine Ol.p asb ?_
    refine Ol.nil ?_
    refine Cd.cond rfl (fun h12 => ?_) (fun h12 => ?_)   -- $9
    · refine Cd.exit (id := 3) ?_
      refine Cd.seq ?_
      refine Cd.seq ?_
      refine Cd.region ?_
      refine Ol.p (bds bs_ir_shape zr_ir_shape) ?_
      refine Ol.s (stw (vs := (Shp.cells ⟨false,true,true,true,false⟩).toArray) sz_ir_shape rfl (shp_one ⟨false,true,true,true,false⟩) (i := 0) rfl rfl) ?_
      refine Ol.p asb ?_
      refine Ol.nil ?_
      refine Cd.ret ⟨.tuple _, retct rfl ag_ir_shape rfl rfl (i := 0) rfl rfl, [], .nil, ?_, rfl⟩
      unfold shp; rw [h13, h1, h12]; rfl
    have n13 : o ≠ 13 := by simpa using h13
    have n1 : o ≠ 1 := by simpa using h1
    have n12 : o ≠ 12 := by simpa using h12
    refine Cd.skip ?_
    refine Cd.seq ?_
    refine Cd.seq ?_
    refine Cd.region ?_
    refine Ol.p eqi ?_
    refine Ol.p asb ?_
    refine Ol.nil ?_
    refine Cd.cond rfl (fun h11 => ?_) (fun h11 => ?_)   -- $11
    · refine Cd.exit (id := 4) ?_
      refine Cd.region ?_
      refine Ol.p (fdl fd_ir_shape_3) ?_
      refine Ol.s (sto (k := 3) (.inr sz_bool) rfl rfl (i := 0) rfl (by exact (by decide : 3 < 5)) rfl) ?_
      refine Ol.nil ?_
      exact ⟨.inl ⟨by simpa using h11, rfl⟩, ⟨rfl, trivial⟩, n13, n1, n12⟩
    refine Cd.skip ?_
    refine Cd.seq ?_
    refine Cd.region ?_
    refine Ol.p eqi ?_
    refine Ol.p asb ?_
    refine Ol.nil ?_
    refine Cd.cond rfl (fun h14 => ?_) (fun h14 => ?_)   -- $13
    · refine Cd.exit (id := 5) ?_
      exact ⟨.inr ⟨by simpa using h14, rfl⟩, ⟨rfl, trivial⟩, n13, n1, n12⟩
    refine Cd.skip ?_
    refine Cd.exit (id := 0) ?_
    refine Cd.seq ?_
    cases h2 : decide (2 ≤ o) with
    | true =>
      refine Cd.region ?_
      refine Ol.p (bds bs_ir_shape zr_ir_shape) ?_
      refine Ol.p mvi ?_
      refine Ol.p gei ?_
      refine Ol.p mvb ?_
      refine Ol.gp h2 mvi ?_
      refine Ol.gp h2 lei ?_
      refine Ol.p (pkTb h2) ?_
      refine Ol.s (stw (vs := (Shp.cells ⟨true,true,true,false,false⟩).toArray) sz_ir_shape rfl (shp_one ⟨true,true,true,false,false⟩) (i := 0) rfl rfl) ?_
      refine Ol.p asb ?_
      refine Ol.nil ?_
      refine Cd.ret ⟨.tuple _, retct rfl ag_ir_shape rfl rfl (i := 0) rfl rfl, [], .nil, ?_, rfl⟩
      unfold shp; rw [h13, h1, h12, h11, h14, h2]; rfl
    | false =>
      refine Cd.region ?_
      refine Ol.p (bds bs_ir_shape zr_ir_shape) ?_
      refine Ol.p mvi ?_
      refine Ol.p gei ?_
      refine Ol.p mvb ?_
      refine Ol.gn h2 ?_
      refine Ol.gn h2 ?_
      refine Ol.p (pkFb h2) ?_
      refine Ol.s (stw (vs := (Shp.cells ⟨true,true,true,false,false⟩).toArray) sz_ir_shape rfl (shp_one ⟨true,true,true,false,false⟩) (i := 0) rfl rfl) ?_
      refine Ol.p asb ?_
      refine Ol.nil ?_
      refine Cd.ret ⟨.tuple _, retct rfl ag_ir_shape rfl rfl (i := 0) rfl rfl, [], .nil, ?_, rfl⟩
      unfold shp; rw [h13, h1, h12, h11, h14, h2]; rfl
  rintro σ' _ ⟨hcs, hs', n13, n1, n12⟩
  rcases hcs with ⟨rfl, rfl⟩ | ⟨rfl, rfl⟩
  · refine Cd.has hs' ?_
    refine Cd.seq ?_
    refine Cd.seq ?_
    refine Cd.region ?_
    refine Ol.p (fdl fd_ir_shape_0) ?_
    refine Ol.s (sto (k := 0) (.inr sz_bool) rfl rfl (i := 0) rfl (by exact (by decide : 0 < 5)) rfl) ?_
    refine Ol.p (fdl fd_ir_shape_1) ?_
    refine Ol.s (sto (k := 1) (.inr sz_bool) rfl rfl (i := 0) rfl (by exact (by decide : 1 < 5)) rfl) ?_
    refine Ol.nil ?_
    refine Cd.seq ?_
    refine Cd.region ?_
    refine Ol.p (ldw ag_ir_shape (i := 0) rfl rfl) ?_
    refine Ol.s (stw (vs := (Shp.cells ⟨true,true,false,true,false⟩).toArray) sz_ir_shape rfl (shp_one ⟨true,true,false,true,false⟩) (i := 0) rfl rfl) ?_
    refine Ol.p asb ?_
    refine Ol.nil ?_
    exact Cd.ret ⟨.tuple _, retct rfl ag_ir_shape rfl rfl (i := 0) rfl rfl, [], .nil, rfl, rfl⟩
  · refine Cd.has hs' ?_
    refine Cd.seq ?_
    refine Cd.seq ?_
    refine Cd.region ?_
    refine Ol.p (fdl fd_ir_shape_0) ?_
    refine Ol.s (sto (k := 0) (.inr sz_bool) rfl rfl (i := 0) rfl (by exact (by decide : 0 < 5)) rfl) ?_
    refine Ol.p (fdl fd_ir_shape_1) ?_
    refine Ol.s (sto (k := 1) (.inr sz_bool) rfl rfl (i := 0) rfl (by exact (by decide : 1 < 5)) rfl) ?_
    refine Ol.nil ?_
    refine Cd.seq ?_
    refine Cd.region ?_
    refine Ol.p (ldw ag_ir_shape (i := 0) rfl rfl) ?_
    refine Ol.s (stw (vs := (Shp.cells ⟨true,true,false,false,false⟩).toArray) sz_ir_shape rfl (shp_one ⟨true,true,false,false,false⟩) (i := 0) rfl rfl) ?_
    refine Ol.p asb ?_
    refine Ol.nil ?_
    exact Cd.ret ⟨.tuple _, retct rfl ag_ir_shape rfl rfl (i := 0) rfl rfl, [], .nil, rfl, rfl⟩
theorem ir_IsIns_1_ct {w : World} {n : Int} : Ct Tryd.prog 99 #[.int .i64 n] w (Is (.bool (!varB n))) := by
  refine Ct.mk Tryd.func99 rfl rfl ?_
  refine Cd.seq ?_
  refine Cd.region ?_
  refine Ol.p asb ?_
  refine Ol.nil ?_
  refine Cd.seq ?_
  refine Cd.region ?_
  refine Ol.p mvi ?_
  refine Ol.s (cl en_ir_variable (fun M w' hh => ir_variable_ct)) ?_
  refine Ol.p noti ?_
  refine Ol.p asb ?_
  refine Ol.nil ?_
  exact Cd.ret ⟨.bool _, ret1 rfl rfl, [], .nil, rfl, rfl⟩
set_option maxHeartbeats 2000000 in
theorem ir_IsIns_ct {w : World} {i : RIns} (hi : InsAt w i) : Ct Tryd.prog 76 #[i.val] w (Is (.bool (isIns i))) := by
  have hl8 : decide ((i.args.length : Int) ≤ 8) = decide (i.args.length ≤ 8) := by rw [decide_eq_decide]; omega
  have hl0 : decide ((i.args.length : Int) = 0) = decide (i.args.length = 0) := by rw [decide_eq_decide]; omega
  have hcal := uint_le99 hi.callee
  have hlen : i.args.length < 2 ^ 62 := by have := hi.len; omega
  refine Ct.mk Tryd.func76 rfl rfl ?_
  refine Cd.seq ?_
  refine Cd.region ?_
  refine Ol.x bxg ?_
  rintro _ _ ⟨g1, rfl, rfl⟩
  refine Ol.p asb ?_
  refine Ol.nil ?_
  refine Cd.seq ?_
  refine Cd.region ?_
  refine Ol.p (fdl fd_api_Ins_0) ?_
  refine Ol.p (ld one_api_Op (Rd.blk (i := 0) rfl rfl)) ?_
  refine Ol.s (cl en_ir_shaped (fun M w' hh => ir_shaped_ct (o := i.op))) ?_
  refine Ol.p mvt ?_
  refine Ol.p extv ?_
  refine Ol.p extv ?_
  refine Ol.x (alc zr_ir_shape) ?_
  rintro _ _ ⟨g3, rfl, rfl⟩
  refine Ol.s (stw (vs := (shp i.op).1.cells.toArray) sz_ir_shape rfl (shp_one _) (i := 0) rfl rfl) ?_
  refine Ol.p asb ?_
  refine Ol.nil ?_
  refine Cd.seq ?_
  obtain ⟨S, hS⟩ : ∃ S, S = (shp i.op).1 := ⟨_, rfl⟩
  rw [← hS]
  cases h2 : (shp i.op).2 with
  | false =>
    have hg : (!(shp i.op).2) = true := by rw [h2]; rfl
    refine Cd.seq ?_
    refine Cd.region ?_
    refine Ol.p mvb ?_
    refine Ol.p noti ?_
    refine Ol.p mvb ?_
    refine Ol.gn rfl ?_
    refine Ol.gn rfl ?_
    refine Ol.gn rfl ?_
    refine Ol.p (pkTb rfl) ?_
    refine Ol.nil ?_
    refine Cd.cond rfl (fun h => ?_) (fun h => by cases h)   -- $18
    refine Cd.seq ?_
    refine Cd.region ?_
    refine Ol.p asb ?_
    refine Ol.nil ?_
    refine Cd.ret ⟨.bool _, ret1 rfl rfl, [], .nil, ?_, rfl⟩
    unfold isIns; rw [h2]; rfl
  | true =>
  refine Cd.seq ?_
  refine Cd.region ?_
  refine Ol.p mvb ?_
  refine Ol.p noti ?_
  refine Ol.p mvb ?_
  refine Ol.gp rfl (fdl fd_api_Ins_7) ?_
  refine Ol.gp rfl (ld one_int (Rd.blk (i := 1) rfl rfl)) ?_
  refine Ol.gp rfl nei ?_
  refine Ol.p (pkFb rfl) ?_
  refine Ol.nil ?_
  refine Cd.cond rfl (fun h => ?_) (fun h => ?_)   -- $18
  · refine Cd.seq ?_
    refine Cd.region ?_
    refine Ol.p asb ?_
    refine Ol.nil ?_
    refine Cd.ret ⟨.bool _, ret1 rfl rfl, [], .nil, ?_, rfl⟩
    unfold isIns; rw [h2, h]; rfl
  have hm : decide (i.many = 0) = true := by simpa using h
  refine Cd.skip ?_
  refine Cd.seq ?_
  refine Cd.seq ?_
  refine Cd.region ?_
  refine Ol.p (fdl fd_ir_shape_4) ?_
  refine Ol.p (ld one_bool (Rd.blk (i := 0) rfl rfl)) ?_
  refine Ol.nil ?_
  refine Cd.cond rfl (fun hc => ?_) (fun hc => ?_)   -- $20
  · have e : isIns i = (noneB [i.a, i.b, i.imm] && (decide (0 ≤ i.callee) && decide (i.callee ≤ 99)) && fitsB (!decide (i.dst = 0)) i.dst && decide (i.args.length ≤ 8) && i.args.all varB) := by
      unfold isIns; rw [h2, hm, ← hS, hc]; rfl
    refine Cd.seq ?_
    refine Cd.region ?_
    refine Ol.p (as_ rfl) ?_
    refine Ol.nil ?_
    refine Cd.seq ?_
    cases c1 : noneB [i.a, i.b, i.imm] with
    | false =>
      refine Cd.region ?_
      refine Ol.p (fdl fd_api_Ins_2) ?_
      refine Ol.p (ld one_int (Rd.blk (i := 1) rfl rfl)) ?_
      refine Ol.p (fdl fd_api_Ins_3) ?_
      refine Ol.p (ld one_int (Rd.blk (i := 1) rfl rfl)) ?_
      refine Ol.p (fdl fd_api_Ins_4) ?_
      refine Ol.p (ld one_int (Rd.blk (i := 1) rfl rfl)) ?_
      refine Ol.x (bsv [.int .i64 i.a, .int .i64 i.b, .int .i64 i.imm] sl_L_int zr_int (by simp [Value.cells])) ?_
      rintro _ _ ⟨g27, rfl, rfl⟩
      refine Ol.s (cl en_ir_none (fun M w' hh => ir_none_ct (l := [i.a, i.b, i.imm]) (Reads.row hh (i := 0) rfl) (by simp))) ?_
      refine Ol.p mvb ?_
      refine Ol.gn c1 ?_
      refine Ol.gn c1 ?_
      refine Ol.gn c1 ?_
      refine Ol.gn c1 ?_
      refine Ol.p (pkFb c1) ?_
      refine Ol.p mvb ?_
      refine Ol.gn rfl ?_
      refine Ol.gn rfl ?_
      refine Ol.gn rfl ?_
      refine Ol.gn rfl ?_
      refine Ol.gn rfl ?_
      refine Ol.gn rfl ?_
      refine Ol.p (pkFb rfl) ?_
      refine Ol.p mvb ?_
      refine Ol.gn rfl ?_
      refine Ol.gn rfl ?_
      refine Ol.gn rfl ?_
      refine Ol.gn rfl ?_
      refine Ol.p (pkFb rfl) ?_
      refine Ol.p mvb ?_
      refine Ol.gn rfl ?_
      refine Ol.gn rfl ?_
      refine Ol.gn rfl ?_
      refine Ol.gn rfl ?_
      refine Ol.gn rfl ?_
      refine Ol.p (pkFb rfl) ?_
      refine Ol.p asb ?_
      refine Ol.nil ?_
      exact Cd.ret ⟨.bool _, ret1 rfl rfl, [], .nil, by rw [e, c1]; rfl, rfl⟩
    | true =>
    cases c2 : decide (0 ≤ i.callee) && decide (i.callee ≤ 99) with
    | false =>
      refine Cd.region ?_
      refine Ol.p (fdl fd_api_Ins_2) ?_
      refine Ol.p (ld one_int (Rd.blk (i := 1) rfl rfl)) ?_
      refine Ol.p (fdl fd_api_Ins_3) ?_
      refine Ol.p (ld one_int (Rd.blk (i := 1) rfl rfl)) ?_
      refine Ol.p (fdl fd_api_Ins_4) ?_
      refine Ol.p (ld one_int (Rd.blk (i := 1) rfl rfl)) ?_
      refine Ol.x (bsv [.int .i64 i.a, .int .i64 i.b, .int .i64 i.imm] sl_L_int zr_int (by simp [Value.cells])) ?_
      rintro _ _ ⟨g27, rfl, rfl⟩
      refine Ol.s (cl en_ir_none (fun M w' hh => ir_none_ct (l := [i.a, i.b, i.imm]) (Reads.row hh (i := 0) rfl) (by simp))) ?_
      refine Ol.p mvb ?_
      refine Ol.gp c1 (fdl fd_api_Ins_5) ?_
      refine Ol.gp c1 (ld one_int (Rd.blk (i := 2) rfl rfl)) ?_
      refine Ol.gp c1 (cvw in_int in_uint) ?_
      refine Ol.gp c1 lei ?_
      refine Ol.p (pkTb c1) ?_
      refine Ol.p mvb ?_
      refine Ol.gn (hcal.trans c2) ?_
      refine Ol.gn (hcal.trans c2) ?_
      refine Ol.gn (hcal.trans c2) ?_
      refine Ol.gn (hcal.trans c2) ?_
      refine Ol.gn (hcal.trans c2) ?_
      refine Ol.gn (hcal.trans c2) ?_
      refine Ol.p (pkFb (hcal.trans c2)) ?_
      refine Ol.p mvb ?_
      refine Ol.gn rfl ?_
      refine Ol.gn rfl ?_
      refine Ol.gn rfl ?_
      refine Ol.gn rfl ?_
      refine Ol.p (pkFb rfl) ?_
      refine Ol.p mvb ?_
      refine Ol.gn rfl ?_
      refine Ol.gn rfl ?_
      refine Ol.gn rfl ?_
      refine Ol.gn rfl ?_
      refine Ol.gn rfl ?_
      refine Ol.p (pkFb rfl) ?_
      refine Ol.p asb ?_
      refine Ol.nil ?_
      exact Cd.ret ⟨.bool _, ret1 rfl rfl, [], .nil, by rw [e, c1, c2]; rfl, rfl⟩
    | true =>
    cases c3 : fitsB (!decide (i.dst = 0)) i.dst with
    | false =>
      refine Cd.region ?_
      refine Ol.p (fdl fd_api_Ins_2) ?_
      refine Ol.p (ld one_int (Rd.blk (i := 1) rfl rfl)) ?_
      refine Ol.p (fdl fd_api_Ins_3) ?_
      refine Ol.p (ld one_int (Rd.blk (i := 1) rfl rfl)) ?_
      refine Ol.p (fdl fd_api_Ins_4) ?_
      refine Ol.p (ld one_int (Rd.blk (i := 1) rfl rfl)) ?_
      refine Ol.x (bsv [.int .i64 i.a, .int .i64 i.b, .int .i64 i.imm] sl_L_int zr_int (by simp [Value.cells])) ?_
      rintro _ _ ⟨g27, rfl, rfl⟩
      refine Ol.s (cl en_ir_none (fun M w' hh => ir_none_ct (l := [i.a, i.b, i.imm]) (Reads.row hh (i := 0) rfl) (by simp))) ?_
      refine Ol.p mvb ?_
      refine Ol.gp c1 (fdl fd_api_Ins_5) ?_
      refine Ol.gp c1 (ld one_int (Rd.blk (i := 2) rfl rfl)) ?_
      refine Ol.gp c1 (cvw in_int in_uint) ?_
      refine Ol.gp c1 lei ?_
      refine Ol.p (pkTb c1) ?_
      refine Ol.p mvb ?_
      refine Ol.gp (hcal.trans c2) (fdl fd_api_Ins_1) ?_
      refine Ol.gp (hcal.trans c2) (ld one_int (Rd.blk (i := 2) rfl rfl)) ?_
      refine Ol.gp (hcal.trans c2) nei ?_
      refine Ol.gp (hcal.trans c2) (fdl fd_api_Ins_1) ?_
      refine Ol.gp (hcal.trans c2) (ld one_int (Rd.blk (i := 2) rfl rfl)) ?_
      refine Ol.gs (hcal.trans c2) (cl en_ir_fits (fun M w' hh => ir_fits_ct)) ?_
      refine Ol.p (pkTb (hcal.trans c2)) ?_
      refine Ol.p mvb ?_
      refine Ol.gn c3 ?_
      refine Ol.gn c3 ?_
      refine Ol.gn c3 ?_
      refine Ol.gn c3 ?_
      refine Ol.p (pkFb c3) ?_
      refine Ol.p mvb ?_
      refine Ol.gn rfl ?_
      refine Ol.gn rfl ?_
      refine Ol.gn rfl ?_
      refine Ol.gn rfl ?_
      refine Ol.gn rfl ?_
      refine Ol.p (pkFb rfl) ?_
      refine Ol.p asb ?_
      refine Ol.nil ?_
      exact Cd.ret ⟨.bool _, ret1 rfl rfl, [], .nil, by rw [e, c1, c2, c3]; rfl, rfl⟩
    | true =>
    cases c4 : decide (i.args.length ≤ 8) with
    | false =>
      refine Cd.region ?_
      refine Ol.p (fdl fd_api_Ins_2) ?_
      refine Ol.p (ld one_int (Rd.blk (i := 1) rfl rfl)) ?_
      refine Ol.p (fdl fd_api_Ins_3) ?_
      refine Ol.p (ld one_int (Rd.blk (i := 1) rfl rfl)) ?_
      refine Ol.p (fdl fd_api_Ins_4) ?_
      refine Ol.p (ld one_int (Rd.blk (i := 1) rfl rfl)) ?_
      refine Ol.x (bsv [.int .i64 i.a, .int .i64 i.b, .int .i64 i.imm] sl_L_int zr_int (by simp [Value.cells])) ?_
      rintro _ _ ⟨g27, rfl, rfl⟩
      refine Ol.s (cl en_ir_none (fun M w' hh => ir_none_ct (l := [i.a, i.b, i.imm]) (Reads.row hh (i := 0) rfl) (by simp))) ?_
      refine Ol.p mvb ?_
      refine Ol.gp c1 (fdl fd_api_Ins_5) ?_
      refine Ol.gp c1 (ld one_int (Rd.blk (i := 2) rfl rfl)) ?_
      refine Ol.gp c1 (cvw in_int in_uint) ?_
      refine Ol.gp c1 lei ?_
      refine Ol.p (pkTb c1) ?_
      refine Ol.p mvb ?_
      refine Ol.gp (hcal.trans c2) (fdl fd_api_Ins_1) ?_
      refine Ol.gp (hcal.trans c2) (ld one_int (Rd.blk (i := 2) rfl rfl)) ?_
      refine Ol.gp (hcal.trans c2) nei ?_
      refine Ol.gp (hcal.trans c2) (fdl fd_api_Ins_1) ?_
      refine Ol.gp (hcal.trans c2) (ld one_int (Rd.blk (i := 2) rfl rfl)) ?_
      refine Ol.gs (hcal.trans c2) (cl en_ir_fits (fun M w' hh => ir_fits_ct)) ?_
      refine Ol.p (pkTb (hcal.trans c2)) ?_
      refine Ol.p mvb ?_
      refine Ol.gp c3 (fdl fd_api_Ins_6) ?_
      refine Ol.gp c3 (ld one_L_int (Rd.blk (i := 2) rfl rfl)) ?_
      refine Ol.gp c3 (lens sl_L_int) ?_
      refine Ol.gp c3 lei ?_
      refine Ol.p (pkTb c3) ?_
      refine Ol.p mvb ?_
      refine Ol.gn (hl8.trans c4) ?_
      refine Ol.gn (hl8.trans c4) ?_
      refine Ol.gn (hl8.trans c4) ?_
      refine Ol.gn (hl8.trans c4) ?_
      refine Ol.gn (hl8.trans c4) ?_
      refine Ol.p (pkFb (hl8.trans c4)) ?_
      refine Ol.p asb ?_
      refine Ol.nil ?_
      exact Cd.ret ⟨.bool _, ret1 rfl rfl, [], .nil, by rw [e, c1, c2, c3, c4]; rfl, rfl⟩
    | true =>
      refine Cd.region ?_
      refine Ol.p (fdl fd_api_Ins_2) ?_
      refine Ol.p (ld one_int (Rd.blk (i := 1) rfl rfl)) ?_
      refine Ol.p (fdl fd_api_Ins_3) ?_
      refine Ol.p (ld one_int (Rd.blk (i := 1) rfl rfl)) ?_
      refine Ol.p (fdl fd_api_Ins_4) ?_
      refine Ol.p (ld one_int (Rd.blk (i := 1) rfl rfl)) ?_
      refine Ol.x (bsv [.int .i64 i.a, .int .i64 i.b, .int .i64 i.imm] sl_L_int zr_int (by simp [Value.cells])) ?_
      rintro _ _ ⟨g27, rfl, rfl⟩
      refine Ol.s (cl en_ir_none (fun M w' hh => ir_none_ct (l := [i.a, i.b, i.imm]) (Reads.row hh (i := 0) rfl) (by simp))) ?_
      refine Ol.p mvb ?_
      refine Ol.gp c1 (fdl fd_api_Ins_5) ?_
      refine Ol.gp c1 (ld one_int (Rd.blk (i := 2) rfl rfl)) ?_
      refine Ol.gp c1 (cvw in_int in_uint) ?_
      refine Ol.gp c1 lei ?_
      refine Ol.p (pkTb c1) ?_
      refine Ol.p mvb ?_
      refine Ol.gp (hcal.trans c2) (fdl fd_api_Ins_1) ?_
      refine Ol.gp (hcal.trans c2) (ld one_int (Rd.blk (i := 2) rfl rfl)) ?_
      refine Ol.gp (hcal.trans c2) nei ?_
      refine Ol.gp (hcal.trans c2) (fdl fd_api_Ins_1) ?_
      refine Ol.gp (hcal.trans c2) (ld one_int (Rd.blk (i := 2) rfl rfl)) ?_
      refine Ol.gs (hcal.trans c2) (cl en_ir_fits (fun M w' hh => ir_fits_ct)) ?_
      refine Ol.p (pkTb (hcal.trans c2)) ?_
      refine Ol.p mvb ?_
      refine Ol.gp c3 (fdl fd_api_Ins_6) ?_
      refine Ol.gp c3 (ld one_L_int (Rd.blk (i := 2) rfl rfl)) ?_
      refine Ol.gp c3 (lens sl_L_int) ?_
      refine Ol.gp c3 lei ?_
      refine Ol.p (pkTb c3) ?_
      refine Ol.p mvb ?_
      refine Ol.gp (hl8.trans c4) (fdl fd_api_Ins_6) ?_
      refine Ol.gp (hl8.trans c4) (ld one_L_int (Rd.blk (i := 2) rfl rfl)) ?_
      refine Ol.gp (hl8.trans c4) mvf ?_
      refine Ol.gs (hl8.trans c4) (cl en_slices_ContainsFunc_L_int_int (fun M w' hh => slices_ContainsFunc_L_int_int_ct (g := 99) (fst := #[]) (cap := #[]) (p := fun n => !varB n) (hi.args.now hh) hlen ⟨en_ir_IsIns_1, fun n hn w2 h2 => ir_IsIns_1_ct⟩)) ?_
      refine Ol.gp (hl8.trans c4) noti ?_
      refine Ol.p (pkTb (hl8.trans c4)) ?_
      refine Ol.p asb ?_
      refine Ol.nil ?_
      exact Cd.ret ⟨.bool _, ret1 rfl rfl, [], .nil, by rw [e, c1, c2, c3, c4, not_any_var]; rfl, rfl⟩
  refine Cd.skip ?_
  refine Cd.seq ?_
  refine Cd.mid (fun σ' L' => Has σ' [(1, .pointer (some ⟨g1, 0, none⟩)), (3, .pointer (some ⟨g3, 0, none⟩)), (73, .bool ((!S.imm && !decide (i.imm = 0)) || decide (i.imm < -1099511627776) || decide (1099511627776 < i.imm)))] ∧ [blk g3 (.cells S.cells.toArray 135), blk g1 (.cells i.cells.toArray 72)] = L') ?_ ?_
  · obtain ⟨p2, hp2⟩ : ∃ p2, p2 = decide (i.imm < -1099511627776) := ⟨_, rfl⟩
    cases p1 : S.imm with
    | true =>
      have hg : (!S.imm) = false := by rw [p1]; rfl
      cases p2 : decide (i.imm < -1099511627776) with
      | true =>
        refine Cd.region ?_
        refine Ol.p (fdl fd_ir_shape_3) ?_
        refine Ol.p (ld one_bool (Rd.blk (i := 0) rfl rfl)) ?_
        refine Ol.p noti ?_
        refine Ol.p mvb ?_
        refine Ol.gn hg ?_
        refine Ol.gn hg ?_
        refine Ol.gn hg ?_
        refine Ol.p (pkFb hg) ?_
        refine Ol.p mvb ?_
        refine Ol.gp rfl (fdl fd_api_Ins_4) ?_
        refine Ol.gp rfl (ld one_int (Rd.blk (i := 1) rfl rfl)) ?_
        refine Ol.gp rfl lsi ?_
        refine Ol.p (pkFb rfl) ?_
        refine Ol.p mvb ?_
        refine Ol.gn p2 ?_
        refine Ol.gn p2 ?_
        refine Ol.gn p2 ?_
        refine Ol.p (pkTb p2) ?_
        refine Ol.nil ?_
        exact ⟨⟨rfl, rfl, rfl, trivial⟩, rfl⟩
      | false =>
        refine Cd.region ?_
        refine Ol.p (fdl fd_ir_shape_3) ?_
        refine Ol.p (ld one_bool (Rd.blk (i := 0) rfl rfl)) ?_
        refine Ol.p noti ?_
        refine Ol.p mvb ?_
        refine Ol.gn hg ?_
        refine Ol.gn hg ?_
        refine Ol.gn hg ?_
        refine Ol.p (pkFb hg) ?_
        refine Ol.p mvb ?_
        refine Ol.gp rfl (fdl fd_api_Ins_4) ?_
        refine Ol.gp rfl (ld one_int (Rd.blk (i := 1) rfl rfl)) ?_
        refine Ol.gp rfl lsi ?_
        refine Ol.p (pkFb rfl) ?_
        refine Ol.p mvb ?_
        refine Ol.gp p2 (fdl fd_api_Ins_4) ?_
        refine Ol.gp p2 (ld one_int (Rd.blk (i := 1) rfl rfl)) ?_
        refine Ol.gp p2 gti ?_
        refine Ol.p (pkFb p2) ?_
        refine Ol.nil ?_
        exact ⟨⟨rfl, rfl, rfl, trivial⟩, rfl⟩
    | false =>
      have hg : (!S.imm) = true := by rw [p1]; rfl
      cases p3 : decide (i.imm = 0) with
      | false =>
        have hg3 : (!decide (i.imm = 0)) = true := by rw [p3]; rfl
        refine Cd.region ?_
        refine Ol.p (fdl fd_ir_shape_3) ?_
        refine Ol.p (ld one_bool (Rd.blk (i := 0) rfl rfl)) ?_
        refine Ol.p noti ?_
        refine Ol.p mvb ?_
        refine Ol.gp hg (fdl fd_api_Ins_4) ?_
        refine Ol.gp hg (ld one_int (Rd.blk (i := 1) rfl rfl)) ?_
        refine Ol.gp hg nei ?_
        refine Ol.p (pkTb hg) ?_
        refine Ol.p mvb ?_
        refine Ol.gn hg3 ?_
        refine Ol.gn hg3 ?_
        refine Ol.gn hg3 ?_
        refine Ol.p (pkTb hg3) ?_
        refine Ol.p mvb ?_
        refine Ol.gn rfl ?_
        refine Ol.gn rfl ?_
        refine Ol.gn rfl ?_
        refine Ol.p (pkTb rfl) ?_
        refine Ol.nil ?_
        exact ⟨⟨rfl, rfl, rfl, trivial⟩, rfl⟩
      | true =>
        have hg3 : (!decide (i.imm = 0)) = false := by rw [p3]; rfl
        cases p2 : decide (i.imm < -1099511627776) with
        | true =>
          refine Cd.region ?_
          refine Ol.p (fdl fd_ir_shape_3) ?_
          refine Ol.p (ld one_bool (Rd.blk (i := 0) rfl rfl)) ?_
          refine Ol.p noti ?_
          refine Ol.p mvb ?_
          refine Ol.gp hg (fdl fd_api_Ins_4) ?_
          refine Ol.gp hg (ld one_int (Rd.blk (i := 1) rfl rfl)) ?_
          refine Ol.gp hg nei ?_
          refine Ol.p (pkTb hg) ?_
          refine Ol.p mvb ?_
          refine Ol.gp hg3 (fdl fd_api_Ins_4) ?_
          refine Ol.gp hg3 (ld one_int (Rd.blk (i := 1) rfl rfl)) ?_
          refine Ol.gp hg3 lsi ?_
          refine Ol.p (pkFb hg3) ?_
          refine Ol.p mvb ?_
          refine Ol.gn p2 ?_
          refine Ol.gn p2 ?_
          refine Ol.gn p2 ?_
          refine Ol.p (pkTb p2) ?_
          refine Ol.nil ?_
          exact ⟨⟨rfl, rfl, rfl, trivial⟩, rfl⟩
        | false =>
          refine Cd.region ?_
          refine Ol.p (fdl fd_ir_shape_3) ?_
          refine Ol.p (ld one_bool (Rd.blk (i := 0) rfl rfl)) ?_
          refine Ol.p noti ?_
          refine Ol.p mvb ?_
          refine Ol.gp hg (fdl fd_api_Ins_4) ?_
          refine Ol.gp hg (ld one_int (Rd.blk (i := 1) rfl rfl)) ?_
          refine Ol.gp hg nei ?_
          refine Ol.p (pkTb hg) ?_
          refine Ol.p mvb ?_
          refine Ol.gp hg3 (fdl fd_api_Ins_4) ?_
          refine Ol.gp hg3 (ld one_int (Rd.blk (i := 1) rfl rfl)) ?_
          refine Ol.gp hg3 lsi ?_
          refine Ol.p (pkFb hg3) ?_
          refine Ol.p mvb ?_
          refine Ol.gp p2 (fdl fd_api_Ins_4) ?_
          refine Ol.gp p2 (ld one_int (Rd.blk (i := 1) rfl rfl)) ?_
          refine Ol.gp p2 gti ?_
          refine Ol.p (pkFb p2) ?_
          refine Ol.nil ?_
          exact ⟨⟨rfl, rfl, rfl, trivial⟩, rfl⟩
  rintro σ' _ ⟨hs', rfl⟩
  refine Cd.has hs' ?_
  refine Cd.cond rfl (fun hq => ?_) (fun hq => ?_)   -- $73
  · refine Cd.seq ?_
    refine Cd.region ?_
    refine Ol.p asb ?_
    refine Ol.nil ?_
    refine Cd.ret ⟨.bool _, ret1 rfl rfl, [], .nil, ?_, rfl⟩
    unfold isIns; rw [h2, hm, ← hS, hc, hq]; rfl
  have e : isIns i = (decide (i.callee = 0) && decide (i.args.length = 0) && fitsB S.dst i.dst && fitsB S.a i.a && fitsB S.b i.b) := by
    unfold isIns; rw [h2, hm, ← hS, hc, hq]; rfl
  refine Cd.skip ?_
  refine Cd.seq ?_
  cases c1 : decide (i.callee = 0) with
  | false =>
    refine Cd.region ?_
    refine Ol.p (fdl fd_api_Ins_5) ?_
    refine Ol.p (ld one_int (Rd.blk (i := 1) rfl rfl)) ?_
    refine Ol.p eqi ?_
    refine Ol.p mvb ?_
    refine Ol.gn c1 ?_
    refine Ol.gn c1 ?_
    refine Ol.gn c1 ?_
    refine Ol.gn c1 ?_
    refine Ol.p (pkFb c1) ?_
    refine Ol.p mvb ?_
    refine Ol.gn rfl ?_
    refine Ol.gn rfl ?_
    refine Ol.gn rfl ?_
    refine Ol.gn rfl ?_
    refine Ol.gn rfl ?_
    refine Ol.p (pkFb rfl) ?_
    refine Ol.p mvb ?_
    refine Ol.gn rfl ?_
    refine Ol.gn rfl ?_
    refine Ol.gn rfl ?_
    refine Ol.gn rfl ?_
    refine Ol.gn rfl ?_
    refine Ol.p (pkFb rfl) ?_
    refine Ol.p mvb ?_
    refine Ol.gn rfl ?_
    refine Ol.gn rfl ?_
    refine Ol.gn rfl ?_
    refine Ol.gn rfl ?_
    refine Ol.gn rfl ?_
    refine Ol.p (pkFb rfl) ?_
    refine Ol.p asb ?_
    refine Ol.nil ?_
    exact Cd.ret ⟨.bool _, ret1 rfl rfl, [], .nil, by rw [e, c1]; rfl, rfl⟩
  | true =>
  cases c2 : decide (i.args.length = 0) with
  | false =>
    refine Cd.region ?_
    refine Ol.p (fdl fd_api_Ins_5) ?_
    refine Ol.p (ld one_int (Rd.blk (i := 1) rfl rfl)) ?_
    refine Ol.p eqi ?_
    refine Ol.p mvb ?_
    refine Ol.gp c1 (fdl fd_api_Ins_6) ?_
    refine Ol.gp c1 (ld one_L_int (Rd.blk (i := 1) rfl rfl)) ?_
    refine Ol.gp c1 (lens sl_L_int) ?_
    refine Ol.gp c1 eqi ?_
    refine Ol.p (pkTb c1) ?_
    refine Ol.p mvb ?_
    refine Ol.gn (hl0.trans c2) ?_
    refine Ol.gn (hl0.trans c2) ?_
    refine Ol.gn (hl0.trans c2) ?_
    refine Ol.gn (hl0.trans c2) ?_
    refine Ol.gn (hl0.trans c2) ?_
    refine Ol.p (pkFb (hl0.trans c2)) ?_
    refine Ol.p mvb ?_
    refine Ol.gn rfl ?_
    refine Ol.gn rfl ?_
    refine Ol.gn rfl ?_
    refine Ol.gn rfl ?_
    refine Ol.gn rfl ?_
    refine Ol.p (pkFb rfl) ?_
    refine Ol.p mvb ?_
    refine Ol.gn rfl ?_
    refine Ol.gn rfl ?_
    refine Ol.gn rfl ?_
    refine Ol.gn rfl ?_
    refine Ol.gn rfl ?_
    refine Ol.p (pkFb rfl) ?_
    refine Ol.p asb ?_
    refine Ol.nil ?_
    exact Cd.ret ⟨.bool _, ret1 rfl rfl, [], .nil, by rw [e, c1, c2]; rfl, rfl⟩
  | true =>
  cases c3 : fitsB S.dst i.dst with
  | false =>
    refine Cd.region ?_
    refine Ol.p (fdl fd_api_Ins_5) ?_
    refine Ol.p (ld one_int (Rd.blk (i := 1) rfl rfl)) ?_
    refine Ol.p eqi ?_
    refine Ol.p mvb ?_
    refine Ol.gp c1 (fdl fd_api_Ins_6) ?_
    refine Ol.gp c1 (ld one_L_int (Rd.blk (i := 1) rfl rfl)) ?_
    refine Ol.gp c1 (lens sl_L_int) ?_
    refine Ol.gp c1 eqi ?_
    refine Ol.p (pkTb c1) ?_
    refine Ol.p mvb ?_
    refine Ol.gp (hl0.trans c2) (fdl fd_ir_shape_0) ?_
    refine Ol.gp (hl0.trans c2) (ld one_bool (Rd.blk (i := 0) rfl rfl)) ?_
    refine Ol.gp (hl0.trans c2) (fdl fd_api_Ins_1) ?_
    refine Ol.gp (hl0.trans c2) (ld one_int (Rd.blk (i := 1) rfl rfl)) ?_
    refine Ol.gs (hl0.trans c2) (cl en_ir_fits (fun M w' hh => ir_fits_ct)) ?_
    refine Ol.p (pkTb (hl0.trans c2)) ?_
    refine Ol.p mvb ?_
    refine Ol.gn c3 ?_
    refine Ol.gn c3 ?_
    refine Ol.gn c3 ?_
    refine Ol.gn c3 ?_
    refine Ol.gn c3 ?_
    refine Ol.p (pkFb c3) ?_
    refine Ol.p mvb ?_
    refine Ol.gn rfl ?_
    refine Ol.gn rfl ?_
    refine Ol.gn rfl ?_
    refine Ol.gn rfl ?_
    refine Ol.gn rfl ?_
    refine Ol.p (pkFb rfl) ?_
    refine Ol.p asb ?_
    refine Ol.nil ?_
    exact Cd.ret ⟨.bool _, ret1 rfl rfl, [], .nil, by rw [e, c1, c2, c3]; rfl, rfl⟩
  | true =>
  cases c4 : fitsB S.a i.a with
  | false =>
    refine Cd.region ?_
    refine Ol.p (fdl fd_api_Ins_5) ?_
    refine Ol.p (ld one_int (Rd.blk (i := 1) rfl rfl)) ?_
    refine Ol.p eqi ?_
    refine Ol.p mvb ?_
    refine Ol.gp c1 (fdl fd_api_Ins_6) ?_
    refine Ol.gp c1 (ld one_L_int (Rd.blk (i := 1) rfl rfl)) ?_
    refine Ol.gp c1 (lens sl_L_int) ?_
    refine Ol.gp c1 eqi ?_
    refine Ol.p (pkTb c1) ?_
    refine Ol.p mvb ?_
    refine Ol.gp (hl0.trans c2) (fdl fd_ir_shape_0) ?_
    refine Ol.gp (hl0.trans c2) (ld one_bool (Rd.blk (i := 0) rfl rfl)) ?_
    refine Ol.gp (hl0.trans c2) (fdl fd_api_Ins_1) ?_
    refine Ol.gp (hl0.trans c2) (ld one_int (Rd.blk (i := 1) rfl rfl)) ?_
    refine Ol.gs (hl0.trans c2) (cl en_ir_fits (fun M w' hh => ir_fits_ct)) ?_
    refine Ol.p (pkTb (hl0.trans c2)) ?_
    refine Ol.p mvb ?_
    refine Ol.gp c3 (fdl fd_ir_shape_1) ?_
    refine Ol.gp c3 (ld one_bool (Rd.blk (i := 0) rfl rfl)) ?_
    refine Ol.gp c3 (fdl fd_api_Ins_2) ?_
    refine Ol.gp c3 (ld one_int (Rd.blk (i := 1) rfl rfl)) ?_
    refine Ol.gs c3 (cl en_ir_fits (fun M w' hh => ir_fits_ct)) ?_
    refine Ol.p (pkTb c3) ?_
    refine Ol.p mvb ?_
    refine Ol.gn c4 ?_
    refine Ol.gn c4 ?_
    refine Ol.gn c4 ?_
    refine Ol.gn c4 ?_
    refine Ol.gn c4 ?_
    refine Ol.p (pkFb c4) ?_
    refine Ol.p asb ?_
    refine Ol.nil ?_
    exact Cd.ret ⟨.bool _, ret1 rfl rfl, [], .nil, by rw [e, c1, c2, c3, c4]; rfl, rfl⟩
  | true =>
    refine Cd.region ?_
    refine Ol.p (fdl fd_api_Ins_5) ?_
    refine Ol.p (ld one_int (Rd.blk (i := 1) rfl rfl)) ?_
    refine Ol.p eqi ?_
    refine Ol.p mvb ?_
    refine Ol.gp c1 (fdl fd_api_Ins_6) ?_
    refine Ol.gp c1 (ld one_L_int (Rd.blk (i := 1) rfl rfl)) ?_
    refine Ol.gp c1 (lens sl_L_int) ?_
    refine Ol.gp c1 eqi ?_
    refine Ol.p (pkTb c1) ?_
    refine Ol.p mvb ?_
    refine Ol.gp (hl0.trans c2) (fdl fd_ir_shape_0) ?_
    refine Ol.gp (hl0.trans c2) (ld one_bool (Rd.blk (i := 0) rfl rfl)) ?_
    refine Ol.gp (hl0.trans c2) (fdl fd_api_Ins_1) ?_
    refine Ol.gp (hl0.trans c2) (ld one_int (Rd.blk (i := 1) rfl rfl)) ?_
    refine Ol.gs (hl0.trans c2) (cl en_ir_fits (fun M w' hh => ir_fits_ct)) ?_
    refine Ol.p (pkTb (hl0.trans c2)) ?_
    refine Ol.p mvb ?_
    refine Ol.gp c3 (fdl fd_ir_shape_1) ?_
    refine Ol.gp c3 (ld one_bool (Rd.blk (i := 0) rfl rfl)) ?_
    refine Ol.gp c3 (fdl fd_api_Ins_2) ?_
    refine Ol.gp c3 (ld one_int (Rd.blk (i := 1) rfl rfl)) ?_
    refine Ol.gs c3 (cl en_ir_fits (fun M w' hh => ir_fits_ct)) ?_
    refine Ol.p (pkTb c3) ?_
    refine Ol.p mvb ?_
    refine Ol.gp c4 (fdl fd_ir_shape_2) ?_
    refine Ol.gp c4 (ld one_bool (Rd.blk (i := 0) rfl rfl)) ?_
    refine Ol.gp c4 (fdl fd_api_Ins_3) ?_
    refine Ol.gp c4 (ld one_int (Rd.blk (i := 1) rfl rfl)) ?_
    refine Ol.gs c4 (cl en_ir_fits (fun M w' hh => ir_fits_ct)) ?_
    refine Ol.p (pkTb c4) ?_
    refine Ol.p asb ?_
    refine Ol.nil ?_
    exact Cd.ret ⟨.bool _, ret1 rfl rfl, [], .nil, by rw [e, c1, c2, c3, c4]; rfl, rfl⟩
end
end Go.Proofs.YtbcnejobnmljlaaDoor

/- The package ir: what instructions read and define, what ends need; sets: walked. -/
namespace Go.Proofs.YtbcnejobnmljlaaDoor
set_option linter.unusedVariables false
open Go Go.RowKit
set_option maxRecDepth 100000

theorem RIns.one (i : RIns) : ∀ u ∈ i.cells, u.oneCell' = true := by
  intro u hu
  unfold RIns.cells at hu
  simp only [List.mem_cons, List.not_mem_nil, or_false] at hu
  rcases hu with rfl | rfl | rfl | rfl | rfl | rfl | rfl | rfl <;> rfl
/-- A block that can be read. -/
structure BlkAt (w : World) (b : RBlk) : Prop where
  ins : Reads w w.heap.size 8 b.iA b.ins.length (b.ins.flatMap RIns.cells)
  all : ∀ i ∈ b.ins, InsAt w i
  len : b.ins.length < 2 ^ 50
theorem BlkAt.now {w0 w : World} {L : List Res} {b : RBlk} (h : BlkAt w0 b) (hh : Hp w0 w0.heap.size L w) : BlkAt w b := ⟨h.ins.now hh, fun i hi => (h.all i hi).now hh, h.len⟩
theorem FunAt.blk {w : World} {f : RFun} (hf : FunAt w w.heap.size f) (hfit : Fit f) {b : RBlk} (hb : b ∈ f.blocks) : BlkAt w b :=
  ⟨hf.ins b hb, fun i hi => ⟨hf.args b hb i hi, hfit.alen b hb i hi, hfit.insr b hb i hi i.callee (by simp)⟩, hfit.ilen b hb⟩
theorem ins_cell {l : List RIns} {k j : Nat} {i : RIns} {u : Value} (hk : l[k]? = some i) (hu : i.cells[j]? = some u) : (l.flatMap RIns.cells)[k * 8 + j]? = some u := by
  rw [flat_get RIns.len _ _ _ _ hk (by have := (List.getElem?_eq_some_iff.1 hu).1; rw [RIns.len] at this; exact this)]; exact hu
/-- What the first k of its two parts read. -/
def abTo (i : RIns) (k : Nat) : List Int := ([i.a, i.b].take k).filter fun n => !decide (n = 0)
theorem abTo_len (i : RIns) (k : Nat) : (abTo i k).length ≤ 2 := by
  unfold abTo
  have h1 : (([i.a, i.b].take k).filter fun n => !decide (n = 0)).length ≤ ([i.a, i.b].take k).length := List.length_filter_le _ _
  have h2 : ([i.a, i.b].take k).length ≤ 2 := by simp [List.length_take]; omega
  omega
theorem abTo_succ {i : RIns} {k : Nat} {v : Int} (h : [i.a, i.b][k]? = some v) : abTo i (k + 1) = if v = 0 then abTo i k else abTo i k ++ [v] := by
  unfold abTo
  rw [take_snoc_ h, List.filter_append]
  by_cases e : v = 0 <;> simp [e]
section
set_option maxHeartbeats 1000000 in
theorem ir_Reads_ct {w : World} {i : RIns} (hi : InsAt w i) : Ct Tryd.prog 45 #[i.val] w (NewL 3 1 (readsL i).length (ints (readsL i))) := by
  refine Ct.mk Tryd.func45 rfl rfl ?_
  refine Cd.seq ?_
  refine Cd.region ?_
  refine Ol.x bxg ?_
  rintro _ _ ⟨g1, rfl, rfl⟩
  refine Ol.p ass ?_
  refine Ol.nil ?_
  refine Cd.seq ?_
  refine Cd.seq ?_
  refine Cd.region ?_
  refine Ol.p (ldw ag_api_Ins (i := 0) rfl rfl) ?_
  refine Ol.s (cl en_ir_IsIns (fun M w' hh => ir_IsIns_ct (hi.now hh))) ?_
  refine Ol.p noti ?_
  refine Ol.nil ?_
  refine Cd.cond rfl (fun h => ?_) (fun h => ?_)   -- $7
  · have e : readsL i = [] := by
      unfold readsL
      have : isIns i = false := by simpa using h
      rw [this]; rfl
    rw [e]
    refine Cd.seq ?_
    refine Cd.region ?_
    refine Ol.p ass ?_
    refine Ol.nil ?_
    refine Cd.nr 3 1 ?_
    exact Cd.ret ⟨.slice none 0 0, ret1 rfl rfl, _, .sub (.cons_cons _ (.cons _ .slnil)), none, 0, rfl, rfl⟩
  have his : isIns i = true := by simpa using h
  have hargs := (isIns_parts his).2.2.2.2
  have e : readsL i = abTo i 2 ++ i.args := by unfold readsL abTo; rw [his]; rfl
  refine Cd.skip ?_
  refine Cd.seq ?_
  refine Cd.seq ?_
  refine Cd.region ?_
  refine Ol.p (fdl fd_api_Ins_2) ?_
  refine Ol.p (ld one_int (Rd.blk (i := 0) rfl rfl)) ?_
  refine Ol.p (fdl fd_api_Ins_3) ?_
  refine Ol.p (ld one_int (Rd.blk (i := 0) rfl rfl)) ?_
  refine Ol.p (bda (cs := #[.int .i64 i.a, .int .i64 i.b]) ar_A2_int zr_A2_int (hf := by kernel_rfl)) ?_
  refine Ol.p mvi ?_
  refine Ol.nil ?_
  refine Cd.nr 3 1 ?_
  refine Cd.block ?_   -- 0
  obtain ⟨L0, hL0⟩ : ∃ L0, L0 = [blk g1 (.cells i.cells.toArray 72)] := ⟨_, rfl⟩
  refine Cd.loop (fun m σ L => ∃ (k : Nat) (A : Option Addr) (c : Nat), m = 2 - k ∧ k ≤ 2 ∧ Has σ [(1, .pointer (some ⟨g1, 0, none⟩)), (2, .slice A (abTo i k).length c), (12, .agg #[.int .i64 i.a, .int .i64 i.b]), (13, .int .i64 k)] ∧ row (.slice A (abTo i k).length c) 3 1 (abTo i k).length (ints (abTo i k)) :: L0 = L) (n := 2) ⟨0, none, 0, rfl, Nat.zero_le _, ⟨rfl, rfl, rfl, rfl, trivial⟩, by rw [hL0]; rfl⟩ ?_
  rintro _ σ L ⟨k, A, c, rfl, hk, hs, rfl⟩
  refine Cd.has hs ?_
  refine Cd.seq ?_
  rw [hL0]
  refine Cd.region ?_
  refine Ol.p lsi ?_
  refine Ol.nil ?_
  refine Cd.seq ?_
  refine Cd.cond rfl (fun h => ?_) (fun h => ?_)   -- $14
  · have hlt : k < 2 := by
      simp only [decide_eq_true_eq] at h; omega
    obtain ⟨v, hv⟩ : ∃ v, [i.a, i.b][k]? = some v := ⟨_, List.getElem?_eq_getElem hlt⟩
    have hvv : (#[Value.int .i64 i.a, .int .i64 i.b] : Array Value)[k]? = some (.int .i64 v) := by
      rcases k with _ | _ | k
      · cases hv; rfl
      · cases hv; rfl
      · omega
    have hlen := abTo_len i k
    refine Cd.skip ?_
    refine Cd.mid (fun σ' L' => ∃ A' c', Has σ' [(1, .pointer (some ⟨g1, 0, none⟩)), (2, .slice A' (abTo i (k + 1)).length c'), (12, .agg #[.int .i64 i.a, .int .i64 i.b]), (13, .int .i64 k)] ∧ row (.slice A' (abTo i (k + 1)).length c') 3 1 (abTo i (k + 1)).length (ints (abTo i (k + 1))) :: L0 = L') ?_ ?_
    · refine Cd.block ?_   -- 1
      refine Cd.seq ?_
      refine Cd.region ?_
      refine Ol.p (ixv (k := k) ar_A2_int one_int hlt hvv) ?_
      refine Ol.p asi ?_
      refine Ol.nil ?_
      refine Cd.seq ?_
      refine Cd.region ?_
      refine Ol.p mvi ?_
      refine Ol.p nei ?_
      refine Ol.nil ?_
      refine Cd.cond rfl (fun h2 => ?_) (fun h2 => ?_)   -- $17
      · have h0 : v ≠ 0 := by simpa using h2
        have e2 : abTo i (k + 1) = abTo i k ++ [v] := by rw [abTo_succ hv, if_neg h0]
        refine Cd.region ?_
        refine Ol.p mvs ?_
        refine Ol.p mvi ?_
        refine Ol.x (bsv [.int .i64 v] sl_L_int zr_int (by simp [Value.cells])) ?_
        rintro _ _ ⟨g20, rfl, rfl⟩
        refine Ol.x (apn (i := 1) (m := 1) sl_L_int zr_int rfl (by decide) rfl (Src.row (i := 0) rfl rfl) (by intro u hu; simp at hu; subst hu; rfl) (by unfold maxLen; omega) (by omega)) ?_
        rintro _ _ ⟨A', c', rfl, rfl⟩
        refine Ol.p ass ?_
        refine Ol.keep (.sub (.cons _ (List.Sublist.refl _))) ?_
        refine Ol.nil ?_
        refine ⟨A', c', ⟨rfl, ?_, rfl, rfl, trivial⟩, ?_⟩
        · rw [e2, List.length_append]; rfl
        · rw [e2, List.length_append, hL0, show ints (abTo i k ++ [v]) = ints (abTo i k) ++ [.int .i64 v] by simp [ints]]; rfl
      have h0 : v = 0 := by simpa using h2
      have e2 : abTo i (k + 1) = abTo i k := by rw [abTo_succ hv, if_pos h0]
      refine Cd.skip ?_
      rw [e2]
      exact ⟨A, c, ⟨rfl, rfl, rfl, rfl, trivial⟩, by rw [hL0]⟩
    rintro σ' _ ⟨A', c', hs', rfl⟩
    refine Cd.has hs' ?_
    rw [hL0]
    refine Cd.region ?_
    refine Ol.p addi ?_
    refine Ol.p mvi ?_
    refine Ol.nil ?_
    exact ⟨2 - (k + 1), by omega, k + 1, A', c', rfl, by omega, ⟨rfl, rfl, rfl, rfl, trivial⟩, rfl⟩
  have hk2 : k = 2 := by
    have : ¬ (k : Int) < 2 := by simpa using h
    omega
  subst hk2
  have hlen := abTo_len i 2
  refine Cd.exit (id := 0) ?_
  refine Cd.seq ?_
  refine Cd.region ?_
  refine Ol.p mvs ?_
  refine Ol.p (fdl fd_api_Ins_6) ?_
  refine Ol.p (ld one_L_int (Rd.blk (i := 1) rfl rfl)) ?_
  refine Ol.x (apn (i := 0) (m := i.args.length) sl_L_int zr_int rfl (by decide) rfl (Src.slc hi.args) (ints_one _) (by unfold maxLen; omega) (by omega)) ?_
  rintro _ _ ⟨A', c', rfl, rfl⟩
  refine Ol.p ass ?_
  refine Ol.nil ?_
  rw [e]
  refine Cd.ret ⟨.slice A' _ c', ret1 rfl rfl, _, .sub (.cons_cons _ (.cons _ .slnil)), A', c', ?_, ?_⟩
  · rw [List.length_append]
  · rw [List.length_append, show ints (abTo i 2 ++ i.args) = ints (abTo i 2) ++ ints i.args by simp [ints]]
end
section
theorem ir_Needs_ct {w : World} {t : Tm} : Ct Tryd.prog 43 #[t.val] w (NewL 3 1 (needsL t).length (ints (needsL t))) := by
  refine Ct.mk Tryd.func43 rfl rfl ?_
  refine Cd.seq ?_
  refine Cd.region ?_
  refine Ol.x bxg ?_
  rintro _ _ ⟨g1, rfl, rfl⟩
  refine Ol.p ass ?_
  refine Ol.nil ?_
  refine Cd.seq ?_
  refine Cd.seq ?_
  cases h1 : isTerm t with
  | false =>
    have e : needsL t = [] := by unfold needsL; rw [h1]; rfl
    have hg : (!isTerm t) = true := by rw [h1]; rfl
    rw [e]
    refine Cd.region ?_
    refine Ol.p (ldw ag_api_Term (i := 0) rfl rfl) ?_
    refine Ol.s (cl en_ir_IsTerm (fun M w' hh => ir_IsTerm_ct (t := t))) ?_
    refine Ol.p noti ?_
    refine Ol.p mvb ?_
    refine Ol.gn hg ?_
    refine Ol.gn hg ?_
    refine Ol.gn hg ?_
    refine Ol.p (pkTb hg) ?_
    refine Ol.nil ?_
    refine Cd.cond rfl (fun h => ?_) (fun h => by cases h)   -- $10
    refine Cd.seq ?_
    refine Cd.region ?_
    refine Ol.p ass ?_
    refine Ol.nil ?_
    refine Cd.nr 3 1 ?_
    exact Cd.ret ⟨.slice none 0 0, ret1 rfl rfl, _, .sub (.cons_cons _ (.cons _ .slnil)), none, 0, rfl, rfl⟩
  | true =>
    have hg : (!isTerm t) = false := by rw [h1]; rfl
    refine Cd.region ?_
    refine Ol.p (ldw ag_api_Term (i := 0) rfl rfl) ?_
    refine Ol.s (cl en_ir_IsTerm (fun M w' hh => ir_IsTerm_ct (t := t))) ?_
    refine Ol.p noti ?_
    refine Ol.p mvb ?_
    refine Ol.gp hg (fdl fd_api_Term_1) ?_
    refine Ol.gp hg (ld one_int (Rd.blk (i := 0) rfl rfl)) ?_
    refine Ol.gp hg eqi ?_
    refine Ol.p (pkFb hg) ?_
    refine Ol.nil ?_
    refine Cd.cond rfl (fun h => ?_) (fun h => ?_)   -- $10
    · have e : needsL t = [] := by unfold needsL; rw [h1, h]; rfl
      rw [e]
      refine Cd.seq ?_
      refine Cd.region ?_
      refine Ol.p ass ?_
      refine Ol.nil ?_
      refine Cd.nr 3 1 ?_
      exact Cd.ret ⟨.slice none 0 0, ret1 rfl rfl, _, .sub (.cons_cons _ (.cons _ .slnil)), none, 0, rfl, rfl⟩
    have e : needsL t = [t.a] := by unfold needsL; rw [h1, h]; rfl
    rw [e]
    refine Cd.skip ?_
    refine Cd.seq ?_
    refine Cd.region ?_
    refine Ol.p (fdl fd_api_Term_1) ?_
    refine Ol.p (ld one_int (Rd.blk (i := 0) rfl rfl)) ?_
    refine Ol.x (bsv [.int .i64 t.a] sl_L_int zr_int (by simp [Value.cells])) ?_
    rintro _ _ ⟨g13, rfl, rfl⟩
    refine Ol.p ass ?_
    refine Ol.nil ?_
    exact Cd.ret ⟨.slice _ _ _, ret1 rfl rfl, _, .sub (.cons_cons _ (.cons _ .slnil)), _, _, rfl, rfl⟩
end
section
theorem ir_Defines_ct {w : World} {i : RIns} (hi : InsAt w i) : Ct Tryd.prog 44 #[i.val] w (Is (.int .i64 (defI i))) := by
  refine Ct.mk Tryd.func44 rfl rfl ?_
  refine Cd.seq ?_
  refine Cd.region ?_
  refine Ol.x bxg ?_
  rintro _ _ ⟨g1, rfl, rfl⟩
  refine Ol.p asi ?_
  refine Ol.nil ?_
  refine Cd.seq ?_
  refine Cd.seq ?_
  refine Cd.region ?_
  refine Ol.p (ldw ag_api_Ins (i := 0) rfl rfl) ?_
  refine Ol.s (cl en_ir_IsIns (fun M w' hh => ir_IsIns_ct (hi.now hh))) ?_
  refine Ol.p noti ?_
  refine Ol.nil ?_
  refine Cd.cond rfl (fun h => ?_) (fun h => ?_)   -- $5
  · refine Cd.seq ?_
    refine Cd.region ?_
    refine Ol.p asi ?_
    refine Ol.nil ?_
    refine Cd.ret ⟨.int .i64 _, ret1 rfl rfl, [], .nil, ?_, rfl⟩
    have : isIns i = false := by simpa using h
    unfold defI; rw [this]; rfl
  refine Cd.skip ?_
  refine Cd.seq ?_
  refine Cd.region ?_
  refine Ol.p (fdl fd_api_Ins_1) ?_
  refine Ol.p (ld one_int (Rd.blk (i := 0) rfl rfl)) ?_
  refine Ol.p asi ?_
  refine Ol.nil ?_
  refine Cd.ret ⟨.int .i64 _, ret1 rfl rfl, [], .nil, ?_, rfl⟩
  have : isIns i = true := by simpa using h
  unfold defI; rw [this]; rfl
end
section
theorem zeroV : (Array.replicate 201 (Value.bool false)) = encV fun _ => false := by
  apply Array.ext'
  simp [encV, List.map_const']
theorem encV_put {f g : VS} {k : Nat} {b : Bool} (h : ∀ i, i < 201 → putV f k b i = g i) : (encV f).setIfInBounds k (.bool b) = encV g := by rw [encV_set]; exact encV_congr h
theorem ir_full_ct {w : World} : Ct Tryd.prog 93 #[] w (Is (.agg (encV fun _ => true))) := by
  refine Ct.mk Tryd.func93 rfl rfl ?_
  refine Cd.seq ?_
  refine Cd.region ?_
  refine Ol.x (alc zr_ir_set) ?_
  rintro _ _ ⟨g0, rfl, rfl⟩
  refine Ol.nil ?_
  refine Cd.seq ?_
  refine Cd.seq ?_
  refine Cd.region ?_
  refine Ol.p mvi ?_
  refine Ol.nil ?_
  refine Cd.block ?_   -- 0
  refine Cd.loop (fun m σ L => ∃ k, m = 201 - k ∧ k ≤ 201 ∧ Has σ [(0, .pointer (some ⟨g0, 0, none⟩)), (2, .int .i64 (k : Nat))] ∧ [blk g0 (.cells (encV fun j => decide (j < k)) 124)] = L) (n := 201) ⟨0, rfl, Nat.zero_le _, ⟨rfl, rfl, trivial⟩, by rw [show (encV fun j => decide (j < 0)) = encV fun _ => false from encV_congr fun i _ => by simp, ← zeroV]; rfl⟩ ?_
  rintro _ σ L ⟨k, rfl, hk, hs, rfl⟩
  refine Cd.has hs ?_
  refine Cd.seq ?_
  refine Cd.region ?_
  refine Ol.p lsi ?_
  refine Ol.nil ?_
  refine Cd.seq ?_
  refine Cd.cond rfl (fun h => ?_) (fun h => ?_)   -- $3
  · have hlt : k < 201 := by
      simp only [decide_eq_true_eq] at h; omega
    refine Cd.skip ?_
    refine Cd.seq ?_
    refine Cd.block ?_   -- 1
    refine Cd.seq ?_
    refine Cd.region ?_
    refine Ol.p mvi ?_
    refine Ol.p asi ?_
    refine Ol.nil ?_
    refine Cd.region ?_
    refine Ol.p mvi ?_
    refine Ol.p (ixl1 (ix := k) ar_ir_set) ?_
    refine Ol.s (sto (k := k) (.inr sz_bool) rfl rfl (i := 0) rfl (by rw [encV_size]; exact hlt) rfl) ?_
    refine Ol.nil ?_
    refine Cd.region ?_
    refine Ol.p addi ?_
    refine Ol.p mvi ?_
    refine Ol.nil ?_
    refine ⟨201 - (k + 1), by omega, k + 1, rfl, by omega, ⟨rfl, rfl, trivial⟩, ?_⟩
    have e : (encV fun j => decide (j < k)).setIfInBounds k (.bool true) = encV fun j => decide (j < k + 1) := encV_put fun j hj => by
      unfold putV
      by_cases e : j = k
      · simp [e]
      · rw [if_neg e, decide_eq_decide]; omega
    exact congrArg (fun cs => [blk g0 (.cells cs 124)]) e.symm
  have hk2 : k = 201 := by
    have : ¬ (k : Int) < 201 := by simpa using h
    omega
  subst hk2
  rw [show (encV fun j => decide (j < 201)) = encV fun _ => true from encV_congr fun i hi => by simpa using hi]
  refine Cd.exit (id := 0) ?_
  refine Cd.seq ?_
  refine Cd.region ?_
  refine Ol.p (ldw ag_ir_set (i := 0) rfl (encV_size _)) ?_
  refine Ol.s (stw sz_ir_set (encV_size _) (encV_one _) (i := 0) rfl (encV_size _)) ?_
  refine Ol.nil ?_
  exact Cd.ret ⟨.agg _, retc rfl ag_ir_set rfl (i := 0) rfl (encV_size _), [], .nil, rfl, rfl⟩
end
section
theorem ir_set_meet_ct {w : World} {s t : VS} : Ct Tryd.prog 94 #[.agg (encV s), .agg (encV t)] w (Is (.agg (encV fun j => s j && t j))) := by
  refine Ct.mk Tryd.func94 rfl rfl ?_
  refine Cd.seq ?_
  refine Cd.region ?_
  refine Ol.x bxg ?_
  rintro _ _ ⟨g2, rfl, rfl⟩
  refine Ol.x bxg ?_
  rintro _ _ ⟨g3, rfl, rfl⟩
  refine Ol.x (alc zr_ir_set) ?_
  rintro _ _ ⟨g4, rfl, rfl⟩
  refine Ol.nil ?_
  refine Cd.seq ?_
  refine Cd.seq ?_
  refine Cd.region ?_
  refine Ol.p mvi ?_
  refine Ol.nil ?_
  obtain ⟨Z, hZ⟩ : ∃ Z, Z = encV fun _ => false := ⟨_, rfl⟩
  refine Cd.block ?_   -- 0
  refine Cd.loop (fun m σ L => ∃ k, m = 201 - k ∧ k ≤ 201 ∧ Has σ [(2, .pointer (some ⟨g2, 0, none⟩)), (3, .pointer (some ⟨g3, 0, none⟩)), (4, .pointer (some ⟨g4, 0, none⟩)), (6, .int .i64 (k : Nat))] ∧ [blk g4 (.cells Z 124), blk g3 (.cells (encV t) 124), blk g2 (.cells (encV fun j => if j < k then s j && t j else s j) 124)] = L) (n := 201) ⟨0, rfl, Nat.zero_le _, ⟨rfl, rfl, rfl, rfl, trivial⟩, by rw [hZ, ← zeroV, show (encV fun j => if j < 0 then s j && t j else s j) = encV s from encV_congr fun i _ => by simp]; rfl⟩ ?_
  rintro _ σ L ⟨k, rfl, hk, hs, rfl⟩
  refine Cd.has hs ?_
  refine Cd.seq ?_
  refine Cd.region ?_
  refine Ol.p lsi ?_
  refine Ol.nil ?_
  refine Cd.seq ?_
  refine Cd.cond rfl (fun h => ?_) (fun h => ?_)   -- $7
  · have hlt : k < 201 := by
      simp only [decide_eq_true_eq] at h; omega
    have hput : ∀ b, b = (s k && t k) → (encV fun j => if j < k then s j && t j else s j).setIfInBounds k (.bool b) = encV fun j => if j < k + 1 then s j && t j else s j := fun b hb => encV_put fun j hj => by
      unfold putV
      by_cases e : j = k
      · subst e; rw [if_pos rfl, if_pos (by omega), hb]
      · rw [if_neg e]
        show (if j < k then s j && t j else s j) = _
        by_cases h2 : j < k
        · rw [if_pos h2, if_pos (by omega)]
        · rw [if_neg h2, if_neg (by omega)]
    refine Cd.skip ?_
    refine Cd.seq ?_
    refine Cd.block ?_   -- 1
    refine Cd.seq ?_
    refine Cd.region ?_
    refine Ol.p mvi ?_
    refine Ol.p asi ?_
    refine Ol.nil ?_
    cases hsk : s k with
    | true =>
      have hg : (if k < k then s k && t k else s k) = true := by rw [if_neg (Nat.lt_irrefl k), hsk]
      refine Cd.region ?_
      refine Ol.p mvi ?_
      refine Ol.p mvi ?_
      refine Ol.p (ixl1 (ix := k) ar_ir_set) ?_
      refine Ol.p (ld one_bool (Rd.blk (i := 2) rfl (encV_get hlt))) ?_
      refine Ol.p mvb ?_
      refine Ol.gp hg mvi ?_
      refine Ol.gp hg (ixl1 (ix := k) ar_ir_set) ?_
      refine Ol.gp hg (ld one_bool (Rd.blk (i := 1) rfl (encV_get hlt))) ?_
      refine Ol.p (pkTb hg) ?_
      refine Ol.p (ixl1 (ix := k) ar_ir_set) ?_
      refine Ol.s (sto (k := k) (.inr sz_bool) rfl rfl (i := 2) rfl (by rw [encV_size]; exact hlt) rfl) ?_
      refine Ol.nil ?_
      refine Cd.region ?_
      refine Ol.p addi ?_
      refine Ol.p mvi ?_
      refine Ol.nil ?_
      exact ⟨201 - (k + 1), by omega, k + 1, rfl, by omega, ⟨rfl, rfl, rfl, rfl, trivial⟩, congrArg (fun cs => [blk g4 (.cells Z 124), blk g3 (.cells (encV t) 124), blk g2 (.cells cs 124)]) (hput _ (by rw [hsk]; rfl)).symm⟩
    | false =>
      have hg : (if k < k then s k && t k else s k) = false := by rw [if_neg (Nat.lt_irrefl k), hsk]
      refine Cd.region ?_
      refine Ol.p mvi ?_
      refine Ol.p mvi ?_
      refine Ol.p (ixl1 (ix := k) ar_ir_set) ?_
      refine Ol.p (ld one_bool (Rd.blk (i := 2) rfl (encV_get hlt))) ?_
      refine Ol.p mvb ?_
      refine Ol.gn hg ?_
      refine Ol.gn hg ?_
      refine Ol.gn hg ?_
      refine Ol.p (pkFb hg) ?_
      refine Ol.p (ixl1 (ix := k) ar_ir_set) ?_
      refine Ol.s (sto (k := k) (.inr sz_bool) rfl rfl (i := 2) rfl (by rw [encV_size]; exact hlt) rfl) ?_
      refine Ol.nil ?_
      refine Cd.region ?_
      refine Ol.p addi ?_
      refine Ol.p mvi ?_
      refine Ol.nil ?_
      exact ⟨201 - (k + 1), by omega, k + 1, rfl, by omega, ⟨rfl, rfl, rfl, rfl, trivial⟩, congrArg (fun cs => [blk g4 (.cells Z 124), blk g3 (.cells (encV t) 124), blk g2 (.cells cs 124)]) (hput _ (by rw [hsk]; rfl)).symm⟩
  have hk2 : k = 201 := by
    have : ¬ (k : Int) < 201 := by simpa using h
    omega
  subst hk2
  rw [show (encV fun j => if j < 201 then s j && t j else s j) = encV fun j => s j && t j from encV_congr fun i hi => by rw [if_pos hi], hZ]
  refine Cd.exit (id := 0) ?_
  refine Cd.seq ?_
  refine Cd.region ?_
  refine Ol.p (ldw ag_ir_set (i := 2) rfl (encV_size _)) ?_
  refine Ol.s (stw sz_ir_set (encV_size _) (encV_one _) (i := 0) rfl (encV_size _)) ?_
  refine Ol.nil ?_
  exact Cd.ret ⟨.agg _, retc rfl ag_ir_set rfl (i := 0) rfl (encV_size _), [], .nil, rfl, rfl⟩
end
section
theorem P_ir_set_has_1_ct {w : World} {s : VS} {gs gb n : Nat} (hs : Reads w w.heap.size 1 (some ⟨gs, 0, none⟩) 201 (encV s).toList) (hb : Reads w w.heap.size 1 (some ⟨gb, 0, none⟩) 1 [.pointer (some ⟨gs, 0, none⟩)]) (hn : n < 201) :
    Ct Tryd.prog 112 #[.int .i64 (n : Int), .pointer (some ⟨gb, 0, none⟩)] w (Is (.bool (!s n))) := by
  have hget : (encV s).toList[n]? = some (.bool (s n)) := by rw [Array.getElem?_toList]; exact encV_get hn
  have h1 : Rd w w.heap.size [] ⟨gb, 0, none⟩ (.pointer (some ⟨gs, 0, none⟩)) := by
    have := Rd.slc (w0 := w) (B := w.heap.size) (L := []) (k := 0) hb rfl
    rw [ap_own] at this; exact this
  have h2 : Rd w w.heap.size [] ⟨gs, n, none⟩ (.bool (s n)) := by
    have := Rd.slc (w0 := w) (B := w.heap.size) (L := []) (k := n) hs hget
    rw [ap_own] at this; exact this
  refine Ct.mk Tryd.func112 rfl rfl ?_
  refine Cd.seq ?_
  refine Cd.region ?_
  refine Ol.p asb ?_
  refine Ol.nil ?_
  refine Cd.seq ?_
  refine Cd.region ?_
  refine Ol.p (ld one_P_ir_set h1) ?_
  refine Ol.p mvi ?_
  refine Ol.p nlc ?_
  refine Ol.p (ixl1 (ix := n) ar_ir_set) ?_
  refine Ol.p (ld one_bool h2) ?_
  refine Ol.p noti ?_
  refine Ol.p asb ?_
  refine Ol.nil ?_
  exact Cd.ret ⟨.bool _, ret1 rfl rfl, [], .nil, rfl, rfl⟩
theorem has_tells {w : World} {s : VS} {gs gb : Nat} {l : List Int} (hs : Reads w w.heap.size 1 (some ⟨gs, 0, none⟩) 201 (encV s).toList) (hb : Reads w w.heap.size 1 (some ⟨gb, 0, none⟩) 1 [.pointer (some ⟨gs, 0, none⟩)]) (hr : ∀ n ∈ l, 0 ≤ n ∧ n ≤ 200) :
    TellsI Tryd.prog w 112 #[] #[.pointer (some ⟨gb, 0, none⟩)] l fun n => !s n.toNat := ⟨en_P_ir_set_has_1, fun n hn w2 h2 => by
  obtain ⟨m, rfl⟩ : ∃ m : Nat, n = (m : Int) := ⟨n.toNat, by have := hr n hn; omega⟩
  exact P_ir_set_has_1_ct ((hs.below h2).more h2.size) ((hb.below h2).more h2.size) (by have := hr _ hn; omega)⟩
theorem P_ir_set_has_ct {w : World} {s : VS} {gs c : Nat} {A : Option Addr} {l : List Int} (hs : Reads w w.heap.size 1 (some ⟨gs, 0, none⟩) 201 (encV s).toList) (hl : Reads w w.heap.size 1 A l.length (ints l)) (hb : l.length < 2 ^ 62) (hr : ∀ n ∈ l, 0 ≤ n ∧ n ≤ 200) :
    Ct Tryd.prog 107 #[.pointer (some ⟨gs, 0, none⟩), .slice A l.length c] w (Is (.bool (hasV s l))) := by
  refine Ct.mk Tryd.func107 rfl rfl ?_
  refine Cd.seq ?_
  refine Cd.region ?_
  refine Ol.x bxp ?_
  rintro _ _ ⟨g2, rfl, rfl⟩
  refine Ol.p asb ?_
  refine Ol.nil ?_
  refine Cd.seq ?_
  refine Cd.region ?_
  refine Ol.p mvs ?_
  refine Ol.p mkf ?_
  refine Ol.s (cl en_slices_ContainsFunc_L_int_int (fun M w' hh => slices_ContainsFunc_L_int_int_ct (g := 112) (fst := #[]) (cap := #[.pointer (some ⟨g2, 0, none⟩)]) (p := fun n => !s n.toNat) (hl.now hh) hb (has_tells (hs.now hh) (Reads.blk hh (i := 0) rfl rfl (fun j u hu => by simpa using hu)) hr))) ?_
  refine Ol.p noti ?_
  refine Ol.p asb ?_
  refine Ol.nil ?_
  refine Cd.ret ⟨.bool _, ret1 rfl rfl, [], .nil, ?_, rfl⟩
  unfold hasV
  rw [List.not_any_eq_all_not]
  simp
end
end Go.Proofs.YtbcnejobnmljlaaDoor

/- What is reached from some blocks through open ones: plain Lean. -/
namespace Go.Proofs.YtbcnejobnmljlaaDoor
set_option linter.unusedVariables false
open Go Go.RowKit

def toAt (ts : List Tm) (b : Nat) : List Int := match ts[b]? with
  | some t => toL t
  | none => []
theorem toAt_some {ts : List Tm} {b : Nat} {t : Tm} (h : ts[b]? = some t) : toAt ts b = toL t := by unfold toAt; rw [h]
def nextL (ts : List Tm) (s : Nat) (l : List Nat) : Nat := l.foldl (fun s b => withL s (toAt ts b)) s
def stepS (ts : List Tm) (op s : Nat) : Nat := nextL ts s (listS s) &&& op
def iterF {α : Type} (f : α → α) : Nat → α → α
  | 0, a => a
  | n + 1, a => f (iterF f n a)
def reachS (ts : List Tm) (op s : Nat) : Nat := iterF (stepS ts op) 1025 s
def Sub (s t : Nat) : Prop := ∀ i, s.testBit i = true → t.testBit i = true
theorem Sub.refl (s : Nat) : Sub s s := fun _ h => h
theorem Sub.trans {a b c : Nat} (h : Sub a b) (k : Sub b c) : Sub a c := fun i hi => k i (h i hi)
theorem Sub.eq {a b : Nat} (h : Sub a b) (k : Sub b a) : a = b := Nat.eq_of_testBit_eq fun i => by
  cases ha : a.testBit i <;> cases hb : b.testBit i <;> first | rfl | (have := h i ha; rw [hb] at this; cases this) | (have := k i hb; rw [ha] at this; cases this)
theorem Sub.sm {a b : Nat} (h : Sub a b) (hb : Sm b) : Sm a := fun n hn => by
  cases ha : a.testBit n with
  | false => rfl
  | true => have := h n ha; rw [hb n hn] at this; cases this
theorem testBit_nextL (ts : List Tm) : ∀ (l : List Nat) (s i : Nat), (nextL ts s l).testBit i = (s.testBit i || (okN i && l.any fun b => (toAt ts b).contains (i : Int)))
  | [], s, i => by simp [nextL]
  | b :: l, s, i => by
    show (nextL ts (withL s (toAt ts b)) l).testBit i = _
    rw [testBit_nextL ts l, testBit_withL, List.any_cons]
    cases s.testBit i <;> cases okN (i : Int) <;> simp
theorem nextL_sm {ts : List Tm} {l : List Nat} {s : Nat} (hs : Sm s) : Sm (nextL ts s l) := fun n hn => by
  rw [testBit_nextL, hs n hn]
  have : okN (n : Int) = false := by
    cases h : okN (n : Int) with
    | false => rfl
    | true => rw [okN_iff] at h; omega
  rw [this]; rfl
theorem nextL_snoc {ts : List Tm} {s : Nat} {l : List Nat} {k b : Nat} (h : l[k]? = some b) : nextL ts s (l.take (k + 1)) = withL (nextL ts s (l.take k)) (toAt ts b) := by
  rw [take_snoc_ h]; unfold nextL; rw [List.foldl_append]; rfl
theorem stepS_sm {ts : List Tm} {op s : Nat} (hs : Sm s) : Sm (stepS ts op s) := and_sm (nextL_sm hs)
theorem sub_step {ts : List Tm} {op s : Nat} (h : Sub s op) : Sub s (stepS ts op s) := fun i hi => by
  unfold stepS
  rw [Nat.testBit_and, testBit_nextL, hi, h i hi]; rfl
theorem step_sub (ts : List Tm) (op s : Nat) : Sub (stepS ts op s) op := fun i hi => by
  unfold stepS at hi
  rw [Nat.testBit_and] at hi
  simp only [Bool.and_eq_true] at hi
  exact hi.2
/-- One is in what comes next, just if it was there, or an edge from one that was there goes to it, and it is open. -/
theorem mem_step {ts : List Tm} {op s i : Nat} (hs : Sm s) : (stepS ts op s).testBit i = true ↔ op.testBit i = true ∧ (s.testBit i = true ∨ (i < 1024 ∧ ∃ b, s.testBit b = true ∧ (i : Int) ∈ toAt ts b)) := by
  unfold stepS
  rw [Nat.testBit_and, testBit_nextL]
  simp only [Bool.and_eq_true, Bool.or_eq_true, List.any_eq_true, List.contains_iff_mem]
  constructor
  · rintro ⟨h1 | ⟨h1, b, h2, h3⟩, h4⟩
    · exact ⟨h4, .inl h1⟩
    · exact ⟨h4, .inr ⟨by rw [okN_iff] at h1; omega, b, (mem_listS.1 h2).2, h3⟩⟩
  · rintro ⟨h4, h1 | ⟨h1, b, h2, h3⟩⟩
    · exact ⟨.inl h1, h4⟩
    · refine ⟨.inr ⟨by rw [okN_iff]; omega, b, mem_listS.2 ⟨?_, h2⟩, h3⟩, h4⟩
      rcases Nat.lt_or_ge b 1024 with h | h
      · exact h
      · rw [hs b h] at h2; cases h2
theorem upto_len_mono {s t : Nat} (h : Sub s t) : ∀ n, (upto s n).length ≤ (upto t n).length
  | 0 => by simp [upto_zero]
  | n + 1 => by
    have ih := upto_len_mono h n
    rw [upto_succ, upto_succ, List.length_append, List.length_append]
    cases hs : s.testBit n with
    | false => simp; omega
    | true => rw [h n hs]; simp; omega
theorem upto_len_lt {s t i : Nat} (h : Sub s t) (h1 : s.testBit i = false) (h2 : t.testBit i = true) : ∀ n, i < n → (upto s n).length < (upto t n).length
  | 0, hn => by omega
  | n + 1, hn => by
    rw [upto_succ, upto_succ, List.length_append, List.length_append]
    by_cases he : i = n
    · subst he
      rw [h1, h2]
      have := upto_len_mono h i
      simp; omega
    · have ih := upto_len_lt h h1 h2 n (by omega)
      cases hs : s.testBit n with
      | false => simp; omega
      | true => rw [h n hs]; simp; omega
theorem listS_lt {s t : Nat} (h : Sub s t) (ht : Sm t) (hne : s ≠ t) : (listS s).length < (listS t).length := by
  have : ∃ i, s.testBit i = false ∧ t.testBit i = true := by
    apply Classical.byContradiction
    intro hc
    apply hne
    refine h.eq fun i hi => ?_
    cases hs : s.testBit i with
    | true => rfl
    | false => exact absurd ⟨i, hs, hi⟩ hc
  obtain ⟨i, h1, h2⟩ := this
  refine upto_len_lt h h1 h2 1024 ?_
  rcases Nat.lt_or_ge i 1024 with hi | hi
  · exact hi
  · rw [ht i hi] at h2; cases h2
theorem iter_fix {α : Type} {f : α → α} {a : α} {k : Nat} (h : f (iterF f k a) = iterF f k a) : ∀ m, k ≤ m → iterF f m a = iterF f k a
  | 0, hm => by rw [show k = 0 by omega]
  | m + 1, hm => by
    by_cases he : k = m + 1
    · rw [he]
    · show f (iterF f m a) = _
      rw [iter_fix h m (by omega)]; exact h
/-- The blocks, all of them. -/
def allS (n : Nat) : Nat := (List.range n).foldl (fun s (b : Nat) => withL s [(b : Int)]) 0
theorem allS_succ (n : Nat) : allS (n + 1) = withL (allS n) [(n : Int)] := by unfold allS; rw [List.range_succ, List.foldl_append, List.foldl_cons, List.foldl_nil]
theorem testBit_allS : ∀ (n i : Nat), n ≤ 1024 → (allS n).testBit i = decide (i < n)
  | 0, i, _ => by simp [allS]
  | n + 1, i, h => by
    rw [allS_succ, testBit_withL, testBit_allS n i (by omega)]
    by_cases he : i = n
    · subst he
      have : okN (i : Int) = true := by rw [okN_iff]; omega
      simp [this]
    · have h1 : ([(n : Int)].contains (i : Int)) = false := by simp; omega
      rw [h1]
      simp; omega
theorem allS_sm {n : Nat} (h : n ≤ 1024) : Sm (allS n) := fun i hi => by rw [testBit_allS n i h]; simp; omega
/-- What Reached tells. -/
def reachedF (ts : List Tm) (fr nt : List Int) : List Nat := bif closed ts then listS (reachS ts (lessL (allS ts.length) nt) (lessL (allS ts.length) nt &&& ofL fr)) else []
end Go.Proofs.YtbcnejobnmljlaaDoor

/- Blocks of one's own behind a slice; the order of a walk in depth. -/
namespace Go.Proofs.YtbcnejobnmljlaaDoor
set_option linter.unusedVariables false
open Go Go.RowKit

/-- A row of one's own is a block. -/
theorem Hp.unrow {w0 w : World} {B g n c e s : Nat} {M L : List Res} {xs : List Value} (h : Hp w0 B (M ++ (row (.slice (some ⟨g, 0, none⟩) n c) e s n xs :: L)) w) : ∃ cs : Array Value, cs.size = c * s ∧ cs.toList.take (n * s) = xs ∧ Hp w0 B (M ++ (blk g (.cells cs e) :: L)) w := by
  have hr : w.ownsRow 0 e s (.slice (some ⟨g, 0, none⟩) n c) n xs := h.has (row (.slice (some ⟨g, 0, none⟩) n c) e s n xs) (by simp)
  rcases hr.2 with ⟨h1, _⟩ | ⟨g', cap, cur, hv, _, hg, _, _, hs, ht⟩
  · cases h1
  · injection hv with h1 _ h3
    cases h1
    subst h3
    refine ⟨cur, hs, ht, ?_⟩
    exact Hp.set0 (r := row (.slice (some ⟨g, 0, none⟩) n c) e s n xs) (r' := blk g (.cells cur e)) h (Stp.refl _ _) hg (fun k hk => by
      have : k = g := hk
      subst this
      simp [row, Value.ownBlock])
theorem Cd.unrow {C : Ctx} {x : Code} {Q : Exit → Env → List Res → Prop} {σ : Env} {L : List Res} {g n c e s : Nat} {xs : List Value} (h : ∀ cs : Array Value, cs.size = c * s → cs.toList.take (n * s) = xs → Cd C x Q σ (blk g (.cells cs e) :: L)) : Cd C x Q σ (row (.slice (some ⟨g, 0, none⟩) n c) e s n xs :: L) := fun a w ha hs => by
  obtain ⟨cs, h1, h2, h3⟩ := Hp.unrow hs.heap
  exact h cs h1 h2 a w ha ⟨hs.size, h3⟩
theorem Ol.unrow {C : Ctx} {all : Array Oper} {l : List Oper} {K : Env → List Res → Prop} {σ : Env} {L : List Res} {g n c e s : Nat} {xs : List Value} (h : ∀ cs : Array Value, cs.size = c * s → cs.toList.take (n * s) = xs → Ol C all l K σ (blk g (.cells cs e) :: L)) : Ol C all l K σ (row (.slice (some ⟨g, 0, none⟩) n c) e s n xs :: L) := fun a w Q ha hs hq => by
  obtain ⟨cs, h1, h2, h3⟩ := Hp.unrow hs.heap
  exact h cs h1 h2 a w Q ha ⟨hs.size, h3⟩ hq
section
variable {P : Program} {w0 : World} {B : Nat} {σ : Env} {L : List Res} {d : Option Nat} {ty T : TypeId} {pos : String} {af : Array Edge} {gd : Option (Nat × Bool)} {x y z : Operand} {v : Value}
/-- An element of a slice that lies in a block that is known. -/
theorem ixo {k : IntKind} {ix n c e s b g off : Nat} (hT : SlT P T e s b) (hx : ev σ x = .slice (some ⟨g, off, none⟩) n c := by exact rfl) (hy : ev σ y = .int k (ix : Int) := by exact rfl) (h : ix < n := by omega) :
    Sd P w0 B ⟨d, .indexAddr T x y, ty, pos, af, gd⟩ σ L (.pointer (some ⟨g, off + ix * s, none⟩)) := by
  have := ixn (d := d) (ty := ty) (pos := pos) (af := af) (gd := gd) (P := P) (w0 := w0) (B := B) (L := L) hT Som.lit hx hy h
  have e1 : ap (some (⟨g, off, none⟩ : Addr)) (ix * s) = ⟨g, off + ix * s, none⟩ := by simp [ap, add_lit_]
  rwa [e1] at this
theorem ixo1 {k : IntKind} {ix n c e b g : Nat} (hT : SlT P T e 1 b) (hx : ev σ x = .slice (some ⟨g, 0, none⟩) n c := by exact rfl) (hy : ev σ y = .int k (ix : Int) := by exact rfl) (h : ix < n := by omega) :
    Sd P w0 B ⟨d, .indexAddr T x y, ty, pos, af, gd⟩ σ L (.pointer (some ⟨g, ix, none⟩)) := by
  have := ixo (d := d) (ty := ty) (pos := pos) (af := af) (gd := gd) (P := P) (w0 := w0) (B := B) (L := L) hT hx hy h
  rwa [Nat.mul_one, Nat.zero_add] at this
end
/-- What can be read of a slice, whoever is called, while L is held. -/
def RdS (w0 : World) (B : Nat) (L : List Res) (s : Nat) (A : Option Addr) (n : Nat) (xs : List Value) : Prop := ∀ M w, Hp w0 B (M ++ L) w → Reads w w.heap.size s A n xs
section
variable {w0 : World} {B s n c i : Nat} {L L' : List Res} {A : Option Addr} {xs : List Value}
theorem RdS.slc (h : Reads w0 B s A n xs) : RdS w0 B L s A n xs := fun M w hh => h.now hh
theorem RdS.row {e : TypeId} (hi : L[i]? = some (row (.slice A n c) e s n xs)) : RdS w0 B L s A n xs := fun M w hh => Reads.row hh hi
theorem RdS.keep (h : RdS w0 B L s A n xs) (hk : Keep L' L) : RdS w0 B L' s A n xs := fun M w hh => h M w (hk.hp hh)
theorem RdS.more (h : RdS w0 B L s A n xs) {r : Res} : RdS w0 B (r :: L) s A n xs := h.keep (.sub (.cons _ (List.Sublist.refl _)))
theorem RdS.nil : RdS w0 B L s A 0 [] := fun M w hh => ⟨by simp, fun h => by omega⟩
theorem RdS.blk {g k : Nat} {cs : Array Value} {e : TypeId} {fz : Nat × Nat} (hi : L[i]? = some (blk g (.cells cs e fz))) (hl : xs.length = n) (hx : ∀ j u, xs[j]? = some u → cs[k + j]? = some u) : RdS w0 B L 1 (some ⟨g, k, none⟩) n xs := fun M w hh => Reads.blk hh hi hl hx
theorem Rd.rds {k : Nat} {v : Value} (h : RdS w0 B L s A n xs) (hk : xs[k]? = some v) : Rd w0 B L (ap A k) v := fun M w hh => by
  have hr := h M w hh
  have hn : 0 < n := by
    rcases Nat.eq_zero_or_pos n with h0 | h0
    · have hl := hr.1
      rw [h0, Nat.zero_mul] at hl
      rw [List.eq_nil_of_length_eq_zero hl] at hk
      simp at hk
    · exact h0
  obtain ⟨ad, rfl, _, hc⟩ := hr.2 hn
  exact hc k v hk
theorem Som.rds (h : RdS w0 B L s A n xs) (hn : 0 < n) : Som w0 B L A := fun M w hh => by
  obtain ⟨ad, rfl, _⟩ := (h M w hh).2 hn; rfl
end
/-- A slice that is handed over: in a block, from some place on; or empty. -/
def PartL (e n : Nat) (xs : List Value) : Value → List Res → Prop := fun v L => (n = 0 ∧ xs = [] ∧ v = .slice none 0 0 ∧ L = []) ∨ ∃ g k c cs, v = .slice (some ⟨g, k, none⟩) n c ∧ L = [blk g (.cells cs e)] ∧ xs.length = n ∧ ∀ j u, xs[j]? = some u → cs[k + j]? = some u
theorem PartL.get {e n : Nat} {xs : List Value} {v : Value} {L : List Res} (h : PartL e n xs v L) : ∃ A c, v = .slice A n c ∧ ∀ w0 B, RdS w0 B L 1 A n xs := by
  rcases h with ⟨rfl, rfl, rfl, rfl⟩ | ⟨g, k, c, cs, rfl, rfl, hl, hx⟩
  · exact ⟨none, 0, rfl, fun _ _ => RdS.nil⟩
  · exact ⟨_, c, rfl, fun _ _ => RdS.blk (i := 0) rfl hl hx⟩
theorem slo {P : Program} {w0 : World} {B : Nat} {σ : Env} {L : List Res} {d : Option Nat} {ty T : TypeId} {pos : String} {af : Array Edge} {gd : Option (Nat × Bool)} {x y : Operand} {g off n c e s b l : Nat} {k : IntKind} (hT : SlT P T e s b) (hl : l ≤ n) (hc : l < c) (hx : ev σ x = .slice (some ⟨g, off, none⟩) n c := by exact rfl) (hy : ev σ y = .int k (l : Int) := by exact rfl) :
    Sd P w0 B ⟨d, .slice T x (some y) none none, ty, pos, af, gd⟩ σ L (.slice (some ⟨g, off + l * s, none⟩) (n - l) (c - l)) := by
  have := sll (d := d) (ty := ty) (pos := pos) (af := af) (gd := gd) (P := P) (w0 := w0) (B := B) (L := L) hT hl hx hy
  rw [if_neg (by omega)] at this
  simpa [add_lit_] using this
theorem made_ints (n : Nat) : (madeCells #[.int .i64 0] (n * 1)).toList.take (n * 1) = List.replicate n (.int .i64 0) := by
  rw [Nat.mul_one, List.take_of_length_le (by simp [madeCells])]
  apply List.ext_getElem?
  intro i
  by_cases h : i < n
  · simp [madeCells, h]
    rw [Nat.mod_one]; rfl
  · simp [madeCells, h]

/-! ### A walk in depth -/
abbrev Dst := Nat × List Nat
def dfs (ts : List Tm) : Nat → Nat → Dst → Dst
  | 0, _, st => st
  | n + 1, b, st => bif st.1.testBit b then st else
    let r := (toAt ts b).foldl (fun st t => dfs ts n t.toNat st) (withL st.1 [(b : Int)], st.2)
    (r.1, b :: r.2)
def orderF (ts : List Tm) : List Nat := bif closed ts then (dfs ts (ts.length + 1) 0 (0, [])).2 else []
def card (s n : Nat) : Nat := (upto s n).length
theorem card_le (s n : Nat) : card s n ≤ n := upto_len_le s n
theorem testBit_with1 (s b i : Nat) (hb : b < 1024) : (withL s [(b : Int)]).testBit i = (s.testBit i || decide (i = b)) := by
  rw [testBit_withL]
  by_cases h : i = b
  · subst h
    have : okN (i : Int) = true := by rw [okN_iff]; omega
    simp [this]
  · have h1 : ([(b : Int)].contains (i : Int)) = false := by simp; omega
    rw [h1]; simp [h]
theorem sub_with1 (s b : Nat) : Sub s (withL s [(b : Int)]) := fun i hi => by rw [testBit_withL, hi]; rfl
theorem card_with1 {s b n : Nat} (hb : b < n) (hn : n ≤ 1024) (h : s.testBit b = false) : card s n < card (withL s [(b : Int)]) n :=
  upto_len_lt (sub_with1 s b) h (by rw [testBit_with1 s b b (by omega)]; simp) n hb
theorem card_mono {s t n : Nat} (h : Sub s t) : card s n ≤ card t n := upto_len_mono h n
def outC (n : Nat) (acc : List Nat) : Array Value := (List.replicate (n - acc.length) (Value.int .i64 0) ++ intsN acc).toArray
theorem outC_size {n : Nat} {acc : List Nat} (h : acc.length ≤ n) : (outC n acc).size = n := by simp [outC, intsN]; omega
theorem outC_nil (n : Nat) {cs : Array Value} (h1 : cs.size = n * 1) (h2 : cs.toList.take (n * 1) = (madeCells #[.int .i64 0] (n * 1)).toList.take (n * 1)) : cs = outC n [] := by
  apply Array.ext'
  rw [made_ints, List.take_of_length_le (by simp; omega)] at h2
  rw [h2]; simp [outC, intsN]
theorem outC_cons {n b : Nat} {acc : List Nat} (h : acc.length < n) : (outC n acc).setIfInBounds (n - (acc.length + 1)) (.int .i64 (b : Int)) = outC n (b :: acc) := by
  apply Array.ext'
  unfold outC
  rw [Array.toList_setIfInBounds]
  have e : n - acc.length = (n - (acc.length + 1)) + 1 := by omega
  simp only [List.length_cons, e, List.replicate_succ', List.append_assoc]
  rw [List.set_append_right _ _ (by simp)]
  simp [intsN]
end Go.Proofs.YtbcnejobnmljlaaDoor

/- Reaching and the order of blocks: plain laws. -/
namespace Go.Proofs.YtbcnejobnmljlaaDoor
set_option linter.unusedVariables false
set_option maxRecDepth 10000
open Go Go.RowKit

/-- A way from a to b. -/
inductive Rc (ts : List Tm) (a : Nat) : Nat → Prop
  | refl : Rc ts a a
  | step {b c : Nat} : Rc ts a b → (c : Int) ∈ toAt ts b → Rc ts a c
theorem Rc.trans {ts : List Tm} {a b c : Nat} (h : Rc ts a b) (k : Rc ts b c) : Rc ts a c := by
  induction k with
  | refl => exact h
  | step _ h2 ih => exact .step ih h2
theorem Rc.one {ts : List Tm} {a b : Nat} (h : (b : Int) ∈ toAt ts a) : Rc ts a b := .step .refl h
theorem iterF_sub {ts : List Tm} {op s : Nat} (h : Sub s op) : ∀ k, Sub (iterF (stepS ts op) k s) op
  | 0 => h
  | k + 1 => step_sub _ _ _
theorem reach_fix {ts : List Tm} {op s : Nat} (h : Sub s op) (hop : Sm op) : stepS ts op (reachS ts op s) = reachS ts op s := by
  have key : ∀ k, (∃ j, j ≤ k ∧ stepS ts op (iterF (stepS ts op) j s) = iterF (stepS ts op) j s) ∨ k ≤ (listS (iterF (stepS ts op) k s)).length := by
    intro k
    induction k with
    | zero => exact .inr (Nat.zero_le _)
    | succ k ih =>
      rcases ih with ⟨j, hj, hf⟩ | ih
      · exact .inl ⟨j, by omega, hf⟩
      · by_cases he : stepS ts op (iterF (stepS ts op) k s) = iterF (stepS ts op) k s
        · exact .inl ⟨k, by omega, he⟩
        · right
          have hs := sub_step (ts := ts) (iterF_sub (ts := ts) h k)
          have := listS_lt hs ((step_sub ts op _).sm hop) (fun e => he e.symm)
          show k + 1 ≤ (listS (stepS ts op (iterF (stepS ts op) k s))).length
          omega
  unfold reachS
  rcases key 1025 with ⟨j, hj, hf⟩ | hl
  · rw [iter_fix hf 1025 hj]; exact hf
  · have := listS_len_le (iterF (stepS ts op) 1025 s)
    omega
theorem reach_sub_ {ts : List Tm} {op s : Nat} (h : Sub s op) : Sub s (reachS ts op s) := by
  unfold reachS
  have : ∀ k, Sub s (iterF (stepS ts op) k s) := by
    intro k
    induction k with
    | zero => exact Sub.refl s
    | succ k ih => exact ih.trans (sub_step (iterF_sub h k))
  exact this _
/-- What is reached: what a way goes to. -/
theorem mem_reach {ts : List Tm} {op s : Nat} (h : Sub s op) (hop : Sm op) (hall : ∀ b c : Nat, (c : Int) ∈ toAt ts b → op.testBit c = true) (i : Nat) : (reachS ts op s).testBit i = true ↔ ∃ a, s.testBit a = true ∧ Rc ts a i := by
  constructor
  · intro hi
    have : ∀ k i, (iterF (stepS ts op) k s).testBit i = true → ∃ a, s.testBit a = true ∧ Rc ts a i := by
      intro k
      induction k with
      | zero => intro i hi; exact ⟨i, hi, .refl⟩
      | succ k ih =>
        intro i hi
        have hi : (stepS ts op (iterF (stepS ts op) k s)).testBit i = true := hi
        rw [mem_step ((iterF_sub h k).sm hop)] at hi
        rcases hi.2 with h1 | ⟨_, b, hb, hc⟩
        · exact ih i h1
        · obtain ⟨a, ha, hr⟩ := ih b hb
          exact ⟨a, ha, .step hr hc⟩
    exact this _ i hi
  · rintro ⟨a, ha, hr⟩
    induction hr with
    | refl => exact reach_sub_ h a ha
    | @step b c _ hc ih =>
      have hsm : Sm (reachS ts op s) := Sub.sm (iterF_sub (ts := ts) h 1025) hop
      rw [← reach_fix h hop, mem_step hsm]
      have hopc := hall b c hc
      refine ⟨hopc, .inr ⟨?_, b, ih, hc⟩⟩
      rcases Nat.lt_or_ge c 1024 with hl | hl
      · exact hl
      · rw [hop c hl] at hopc; cases hopc
theorem toAt_lt {ts : List Tm} (hc : closed ts = true) {b : Nat} {t : Int} (h : t ∈ toAt ts b) : 0 ≤ t ∧ t < ts.length ∧ b < ts.length := by
  unfold toAt at h
  split at h
  · rename_i u hu
    obtain ⟨j, hj⟩ := List.mem_iff_getElem?.1 h
    have hm : (⟨(b : Int), (j : Int), t⟩ : Ed) ∈ edges ts := mem_edges.2 ⟨b, j, u, hu, hj, rfl, rfl⟩
    unfold closed at hc
    simp only [Bool.and_eq_true, decide_eq_true_eq, List.all_eq_true] at hc
    have := hc.1.1 _ hm
    exact ⟨this.1, this.2, (List.getElem?_eq_some_iff.1 hu).1⟩
  · cases h
theorem closed_le {ts : List Tm} (hc : closed ts = true) : 0 < ts.length ∧ ts.length ≤ 200 := by
  unfold closed at hc
  simp only [Bool.and_eq_true, decide_eq_true_eq] at hc
  exact ⟨hc.1.2, hc.2⟩
/-- What Reached tells, no block shut. -/
theorem mem_reachedF {ts : List Tm} {fr : List Int} (hc : closed ts = true) (i : Nat) : i ∈ reachedF ts fr [] ↔ ∃ a : Nat, a < ts.length ∧ (a : Int) ∈ fr ∧ Rc ts a i := by
  have hl := (closed_le hc).2
  unfold reachedF
  rw [hc, cond_true, mem_listS]
  have hop : lessL (allS ts.length) [] = allS ts.length := rfl
  rw [hop]
  have hsub : Sub (allS ts.length &&& ofL fr) (allS ts.length) := fun i hi => by
    rw [Nat.testBit_and] at hi
    simp only [Bool.and_eq_true] at hi
    exact hi.1
  have hall : ∀ b c : Nat, (c : Int) ∈ toAt ts b → (allS ts.length).testBit c = true := fun b c h => by
    rw [testBit_allS _ _ (by omega)]
    have := toAt_lt hc h
    simp; omega
  rw [mem_reach hsub (allS_sm (by omega)) hall]
  constructor
  · rintro ⟨_, a, ha, hr⟩
    rw [Nat.testBit_and, testBit_allS _ _ (by omega), testBit_ofL] at ha
    simp only [Bool.and_eq_true, decide_eq_true_eq, List.contains_iff_mem] at ha
    exact ⟨a, ha.1, ha.2.2, hr⟩
  · rintro ⟨a, h1, h2, hr⟩
    refine ⟨?_, a, ?_, hr⟩
    · cases hr with
      | refl => omega
      | step _ h => have := toAt_lt hc h; omega
    · rw [Nat.testBit_and, testBit_allS _ _ (by omega), testBit_ofL]
      have : okN (a : Int) = true := by rw [okN_iff]; omega
      simp [this, h1, h2]
theorem upto_nodup (s n : Nat) : (upto s n).Nodup := by unfold upto; exact List.Pairwise.filter _ List.nodup_range
theorem reachedF_nodup (ts : List Tm) (fr nt : List Int) : (reachedF ts fr nt).Nodup := by
  unfold reachedF
  cases closed ts
  · exact List.nodup_nil
  · rw [cond_true]; unfold listS; exact upto_nodup _ _

/-! ### The walk in depth -/
def After (l : List Nat) (x y : Nat) : Prop := ∃ p q, l = p ++ x :: q ∧ y ∈ q
theorem After.more {l : List Nat} {x y : Nat} (h : After l x y) (r : List Nat) : After (r ++ l) x y := by
  obtain ⟨p, q, rfl, hy⟩ := h
  exact ⟨r ++ p, q, by simp, hy⟩
structure DPre (ts : List Tm) (b : Nat) (st : Dst) : Prop where
  sm : Sm st.1
  acc : ∀ y ∈ st.2, st.1.testBit y = true
  nd : st.2.Nodup
  gray : ∀ y, st.1.testBit y = true → y ∈ st.2 ∨ Rc ts y b
structure DPost (ts : List Tm) (b : Nat) (st : Dst) (r : Dst) (nl : List Nat) : Prop where
  eq : r.2 = nl ++ st.2
  seen : ∀ i, r.1.testBit i = true ↔ st.1.testBit i = true ∨ i ∈ nl
  sm : Sm r.1
  nd : (nl ++ st.2).Nodup
  new : ∀ x ∈ nl, Rc ts b x ∧ st.1.testBit x = false ∧ x < ts.length
  next : ∀ x ∈ nl, ∀ y : Nat, (y : Int) ∈ toAt ts x → r.1.testBit y = true ∧ (After (nl ++ st.2) x y ∨ Rc ts y x)
theorem fold_spec {ts : List Tm} (hc : closed ts = true) {fuel b : Nat} (ih : ∀ (b : Nat) (st : Dst), b < ts.length → ts.length - card st.1 ts.length < fuel → DPre ts b st → ∃ new, DPost ts b st (dfs ts fuel b st) new ∧ (dfs ts fuel b st).1.testBit b = true) :
    ∀ (l : List Int) (st : Dst), (∀ t ∈ l, t ∈ toAt ts b) → ts.length - card st.1 ts.length < fuel → DPre ts b st → ∃ new, DPost ts b st (l.foldl (fun st t => dfs ts fuel t.toNat st) st) new ∧ ∀ t : Nat, (t : Int) ∈ l → (l.foldl (fun st t => dfs ts fuel t.toNat st) st).1.testBit t = true
  | [], st, _, _, h => ⟨[], ⟨rfl, fun i => by simp, h.sm, h.nd, fun x h => (by cases h), fun x h => (by cases h)⟩, fun t h => (by cases h)⟩
  | t :: l, st, hl, hf, h => by
    have htm := hl t (by simp)
    have htl := toAt_lt hc htm
    have hcast : ((t.toNat : Nat) : Int) = t := by omega
    obtain ⟨n1, p1, q1⟩ := ih t.toNat st (by omega) hf ⟨h.sm, h.acc, h.nd, fun y hy => (h.gray y hy).imp id fun hr => .step hr (by rw [hcast]; exact htm)⟩
    obtain ⟨st1, hst1⟩ : ∃ st1, st1 = dfs ts fuel t.toNat st := ⟨_, rfl⟩
    rw [← hst1] at p1 q1
    have hmono : card st.1 ts.length ≤ card st1.1 ts.length := card_mono fun i hi => (p1.seen i).2 (.inl hi)
    obtain ⟨n2, p2, q2⟩ := fold_spec hc ih l st1 (fun t ht => hl t (by simp [ht])) (by omega)
      ⟨p1.sm, fun y hy => by
        rw [p1.eq, List.mem_append] at hy
        exact (p1.seen y).2 (hy.elim .inr fun h2 => .inl (h.acc y h2)), by rw [p1.eq]; exact p1.nd, fun y hy => by
        rw [p1.eq, List.mem_append]
        rcases (p1.seen y).1 hy with h2 | h2
        · rcases h.gray y h2 with h3 | h3
          · exact .inl (.inr h3)
          · exact .inr h3
        · exact .inl (.inl h2)⟩
    have e : (t :: l).foldl (fun st t => dfs ts fuel t.toNat st) st = l.foldl (fun st t => dfs ts fuel t.toNat st) st1 := by rw [hst1]; rfl
    rw [e]
    have eq2 : n2 ++ st1.2 = n2 ++ n1 ++ st.2 := by rw [p1.eq]; simp
    refine ⟨n2 ++ n1, ⟨by rw [p2.eq, eq2], fun i => by rw [p2.seen, p1.seen, List.mem_append]; exact ⟨fun h => by rcases h with (h | h) | h <;> simp [h], fun h => by rcases h with h | h | h <;> simp [h]⟩, p2.sm, by rw [← eq2]; exact p2.nd, fun x hx => ?_, fun x hx y hy => ?_⟩, fun u hu => ?_⟩
    · rcases List.mem_append.1 hx with hx | hx
      · obtain ⟨h1, h2, h3⟩ := p2.new x hx
        refine ⟨h1, ?_, h3⟩
        cases h4 : st.1.testBit x with
        | false => rfl
        | true => rw [(p1.seen x).2 (.inl h4)] at h2; cases h2
      · obtain ⟨h1, h2, h3⟩ := p1.new x hx
        exact ⟨(Rc.one (by rw [hcast]; exact htm)).trans h1, h2, h3⟩
    · rw [← eq2]
      rcases List.mem_append.1 hx with hx | hx
      · exact p2.next x hx y hy
      · obtain ⟨h1, h2⟩ := p1.next x hx y hy
        refine ⟨(p2.seen y).2 (.inl h1), h2.imp (fun h3 => ?_) id⟩
        rw [p1.eq]; exact h3.more n2
    · rcases List.mem_cons.1 hu with hu | hu
      · subst hu
        exact (p2.seen u).2 (.inl (by simpa using q1))
      · exact q2 u hu
theorem dfs_spec {ts : List Tm} (hc : closed ts = true) : ∀ (fuel b : Nat) (st : Dst), b < ts.length → ts.length - card st.1 ts.length < fuel → DPre ts b st → ∃ new, DPost ts b st (dfs ts fuel b st) new ∧ (dfs ts fuel b st).1.testBit b = true := by
  intro fuel
  induction fuel with
  | zero => intro b st _ h; omega
  | succ fuel ih =>
    intro b st hb hf h
    have hl := (closed_le hc).2
    cases hs : st.1.testBit b with
    | true =>
      have e : dfs ts (fuel + 1) b st = st := by simp only [dfs, hs, cond_true]
      rw [e]
      exact ⟨[], ⟨rfl, fun i => by simp, h.sm, h.nd, fun x h => (by cases h), fun x h => (by cases h)⟩, hs⟩
    | false =>
      obtain ⟨s1, hs1⟩ : ∃ s1, s1 = withL st.1 [(b : Int)] := ⟨_, rfl⟩
      have hbit : ∀ i, s1.testBit i = true ↔ st.1.testBit i = true ∨ i = b := fun i => by rw [hs1, testBit_with1 _ _ _ (by omega)]; simp
      have hgrow : card st.1 ts.length < card s1 ts.length := by rw [hs1]; exact card_with1 hb (by omega) hs
      have hcl := card_le s1 ts.length
      obtain ⟨nw, p, q⟩ := fold_spec hc (b := b) ih (toAt ts b) (s1, st.2) (fun t h => h) (by show ts.length - card s1 ts.length < fuel; omega)
        ⟨by rw [hs1]; exact withL_sm h.sm, fun y hy => (hbit y).2 (.inl (h.acc y hy)), h.nd, fun y hy => by
          rcases (hbit y).1 hy with h1 | rfl
          · exact h.gray y h1
          · exact .inr .refl⟩
      obtain ⟨r, hr⟩ : ∃ r, r = (toAt ts b).foldl (fun st t => dfs ts fuel t.toNat st) (s1, st.2) := ⟨_, rfl⟩
      have e : dfs ts (fuel + 1) b st = (r.1, b :: r.2) := by simp only [dfs, hs, cond_false, hr, hs1]
      rw [← hr] at p q
      rw [e]
      have hbs : r.1.testBit b = true := (p.seen b).2 (.inl ((hbit b).2 (.inr rfl)))
      have hbn : b ∉ nw := fun hm => by
        have := (p.new b hm).2.1
        rw [(hbit b).2 (.inr rfl)] at this; cases this
      have hba : b ∉ st.2 := fun hm => by rw [h.acc b hm] at hs; cases hs
      refine ⟨b :: nw, ⟨by rw [p.eq]; rfl, fun i => by
        rw [p.seen, hbit, List.mem_cons]
        exact or_assoc, p.sm, by
        rw [List.cons_append, List.nodup_cons, List.mem_append]
        exact ⟨fun h => h.elim hbn hba, p.nd⟩, fun x hx => ?_, fun x hx y hy => ?_⟩, hbs⟩
      · rcases List.mem_cons.1 hx with rfl | hx
        · exact ⟨.refl, hs, hb⟩
        · obtain ⟨h1, h2, h3⟩ := p.new x hx
          refine ⟨h1, ?_, h3⟩
          cases h4 : st.1.testBit x with
          | false => rfl
          | true => rw [(hbit x).2 (.inl h4)] at h2; cases h2
      · rcases List.mem_cons.1 hx with rfl | hx
        · have hy1 := q y hy
          refine ⟨hy1, ?_⟩
          rcases (p.seen y).1 hy1 with h1 | h1
          · rcases (hbit y).1 h1 with h2 | rfl
            · rcases h.gray y h2 with h3 | h3
              · exact .inl ⟨[], nw ++ st.2, rfl, List.mem_append_right _ h3⟩
              · exact .inr h3
            · exact .inr .refl
          · exact .inl ⟨[], nw ++ st.2, rfl, List.mem_append_left _ h1⟩
        · obtain ⟨h1, h2⟩ := p.next x hx y hy
          exact ⟨h1, h2.imp (fun h3 => h3.more [b]) id⟩

theorem nodup_le : ∀ (l m : List Nat), l.Nodup → (∀ x ∈ l, x ∈ m) → l.length ≤ m.length
  | [], m, _, _ => Nat.zero_le _
  | x :: l, m, hn, h => by
    rw [List.nodup_cons] at hn
    have hx := h x (by simp)
    have := nodup_le l (m.erase x) hn.2 fun y hy => (List.mem_erase_of_ne (fun e => hn.1 (by subst e; exact hy))).2 (h y (by simp [hy]))
    rw [List.length_erase_of_mem hx] at this
    have : 0 < m.length := List.length_pos_of_mem hx
    simp only [List.length_cons]
    omega
theorem order_spec {ts : List Tm} (hc : closed ts = true) : ∃ r nw, r = dfs ts (ts.length + 1) 0 (0, []) ∧ orderF ts = nw ∧ DPost ts 0 (0, []) r nw ∧ r.1.testBit 0 = true := by
  obtain ⟨nw, p, q⟩ := dfs_spec hc (ts.length + 1) 0 (0, []) (closed_le hc).1 (by omega) ⟨fun n _ => by simp, fun y h => (by cases h), List.nodup_nil, fun y h => by simp at h⟩
  refine ⟨_, nw, rfl, ?_, p, q⟩
  unfold orderF
  rw [hc, cond_true, p.eq]
  simp
theorem order_nodup {ts : List Tm} (hc : closed ts = true) : (orderF ts).Nodup := by
  obtain ⟨r, nw, _, e, p, _⟩ := order_spec hc
  rw [e]; simpa using p.nd
theorem order_edge {ts : List Tm} (hc : closed ts = true) {a y : Nat} (ha : a ∈ orderF ts) (hy : (y : Int) ∈ toAt ts a) : y ∈ orderF ts ∧ (After (orderF ts) a y ∨ Rc ts y a) := by
  obtain ⟨r, nw, _, e, p, _⟩ := order_spec hc
  rw [e] at ha ⊢
  obtain ⟨h1, h2⟩ := p.next a ha y hy
  exact ⟨by simpa using (p.seen y).1 h1, by simpa using h2⟩
theorem order_mem {ts : List Tm} (hc : closed ts = true) (i : Nat) : i ∈ orderF ts ↔ Rc ts 0 i := by
  obtain ⟨r, nw, _, e, p, q⟩ := order_spec hc
  constructor
  · intro h
    rw [e] at h
    exact (p.new i h).1
  · intro h
    induction h with
    | refl => rw [e]; simpa using (p.seen 0).1 q
    | step _ h2 ih => exact (order_edge hc ih h2).1
theorem order_reached {ts : List Tm} (hc : closed ts = true) (i : Nat) : i ∈ orderF ts ↔ i ∈ reachedF ts [0] [] := by
  rw [order_mem hc, mem_reachedF hc]
  constructor
  · intro h
    exact ⟨0, (closed_le hc).1, by simp, h⟩
  · rintro ⟨a, _, ha, hr⟩
    have : a = 0 := by simpa using ha
    subst this; exact hr
theorem order_len {ts : List Tm} (hc : closed ts = true) : (orderF ts).length = (reachedF ts [0] []).length :=
  Nat.le_antisymm (nodup_le _ _ (order_nodup hc) fun x hx => (order_reached hc x).1 hx) (nodup_le _ _ (reachedF_nodup _ _ _) fun x hx => (order_reached hc x).2 hx)
theorem dfs_head {ts : List Tm} {k b : Nat} {st : Dst} (h : st.1.testBit b = false) : ∃ r : Dst, dfs ts (k + 1) b st = (r.1, b :: r.2) :=
  ⟨(toAt ts b).foldl (fun st t => dfs ts k t.toNat st) (withL st.1 [(b : Int)], st.2), by simp only [dfs, h, cond_false]⟩
theorem order_head {ts : List Tm} (hc : closed ts = true) : ∃ t, orderF ts = 0 :: t := by
  obtain ⟨r, hr⟩ := dfs_head (ts := ts) (k := ts.length) (b := 0) (st := (0, [])) (by simp)
  refine ⟨r.2, ?_⟩
  unfold orderF
  rw [hc, cond_true, hr]
/-! places -/
def placeI (l : List Int) (n : Int) : Int := match l.findIdx? (fun x => decide (x = n)) with
  | some i => (i : Int)
  | none => -1
end Go.Proofs.YtbcnejobnmljlaaDoor

/- Plain laws behind ir.Right: edges that go to blocks, a search that reaches what can be reached. -/
namespace Go.Proofs.YtbcnejobnmljlaaDoor
set_option linter.unusedVariables false
open Go Go.RowKit

/-- All edges go to blocks, none to the first. -/
def okEs (ts : List Tm) : Bool := ts.all fun t => (toL t).all fun n => decide (1 ≤ n) && decide (n < (ts.length : Int))
theorem okEs_at {ts : List Tm} (h : okEs ts = true) {a : Nat} {n : Int} (hn : n ∈ toAt ts a) : 1 ≤ n ∧ n < ts.length := by
  unfold toAt at hn
  cases ht : ts[a]? with
  | none => rw [ht] at hn; cases hn
  | some t =>
    rw [ht] at hn
    unfold okEs at h
    rw [List.all_eq_true] at h
    have h1 := h t (List.mem_of_getElem? ht)
    rw [List.all_eq_true] at h1
    have h2 := h1 n hn
    simpa using h2
theorem okEs_closed {ts : List Tm} (h : okEs ts = true) (h0 : 0 < ts.length) (h2 : ts.length ≤ 200) : closed ts = true := by
  unfold closed
  rw [Bool.and_eq_true, Bool.and_eq_true, decide_eq_true_iff, decide_eq_true_iff]
  refine ⟨⟨?_, h0⟩, h2⟩
  rw [List.all_eq_true]
  intro e he
  obtain ⟨k, j, t, hk, hj, h3, h4⟩ := mem_edges.1 he
  have := okEs_at h (a := k) (n := e.to) (by rw [toAt_some hk]; exact List.mem_of_getElem? hj)
  simp; omega
def setB (S : Nat → Bool) (x : Nat) : Nat → Bool := fun i => if i = x then true else S i
def cntB (n : Nat) (S : Nat → Bool) : Nat := ((List.range n).filter S).length
theorem cntB_le (n : Nat) (S : Nat → Bool) : cntB n S ≤ n := by
  unfold cntB
  have := List.length_filter_le S (List.range n)
  simpa using this
theorem cntB_congr {n : Nat} {S T : Nat → Bool} (h : ∀ i, i < n → S i = T i) : cntB n S = cntB n T := by
  unfold cntB
  rw [List.filter_congr]
  intro i hi
  exact h i (by simpa using hi)
theorem cntB_set {S : Nat → Bool} {x : Nat} : ∀ {n : Nat}, x < n → S x = false → cntB n (setB S x) = cntB n S + 1
  | 0, h, _ => by omega
  | n + 1, h, h0 => by
    have hs : ∀ (T : Nat → Bool), cntB (n + 1) T = cntB n T + (if T n then 1 else 0) := fun T => by
      unfold cntB
      rw [List.range_succ, List.filter_append, List.length_append]
      cases hT : T n <;> simp [hT]
    rw [hs, hs]
    by_cases e : x = n
    · subst e
      have h1 : cntB x (setB S x) = cntB x S := cntB_congr fun i hi => by unfold setB; rw [if_neg (by omega)]
      have h2 : setB S x x = true := by unfold setB; rw [if_pos rfl]
      rw [h1, h2, h0]; rfl
    · have h1 := cntB_set (S := S) (x := x) (n := n) (by omega) h0
      have h2 : setB S x n = S n := by unfold setB; rw [if_neg (fun e2 => e e2.symm)]
      rw [h1, h2]; omega
/-- A search by a queue: what has been seen, what is to do. -/
structure Bfs (ts : List Tm) (S : Nat → Bool) (todo : List Nat) : Prop where
  s : ∀ i, S i = true → i < ts.length ∧ Rc ts 0 i
  t : ∀ i ∈ todo, i < ts.length ∧ Rc ts 0 i
  z : S 0 = true ∨ 0 ∈ todo
  e : ∀ a, S a = true → ∀ b : Nat, (b : Int) ∈ toAt ts a → S b = true ∨ b ∈ todo
theorem Bfs.start {ts : List Tm} (h : 0 < ts.length) : Bfs ts (fun _ => false) [0] := by
  refine ⟨fun i h => (by cases h), fun i hi => ?_, .inr (by simp), fun a h => (by cases h)⟩
  have : i = 0 := by simpa using hi
  subst this
  exact ⟨h, .refl⟩
theorem Bfs.pop {ts : List Tm} {S : Nat → Bool} {x : Nat} {l : List Nat} (h : Bfs ts S (x :: l)) (hx : S x = true) : Bfs ts S l := by
  refine ⟨h.s, fun i hi => h.t i (by simp [hi]), ?_, fun a ha b hb => ?_⟩
  · rcases h.z with h1 | h1
    · exact .inl h1
    · rcases List.mem_cons.1 h1 with rfl | h1
      · exact .inl hx
      · exact .inr h1
  · rcases h.e a ha b hb with h1 | h1
    · exact .inl h1
    · rcases List.mem_cons.1 h1 with rfl | h1
      · exact .inl hx
      · exact .inr h1
theorem Bfs.see {ts : List Tm} {S : Nat → Bool} {x : Nat} {l m : List Nat} (h : Bfs ts S (x :: l)) (hm : ∀ b : Nat, b ∈ m ↔ (b : Int) ∈ toAt ts x) (hlt : ∀ b ∈ m, b < ts.length) : Bfs ts (setB S x) (l ++ m) := by
  obtain ⟨hxl, hxr⟩ := h.t x (by simp)
  have hset : ∀ i, setB S x i = true ↔ i = x ∨ S i = true := fun i => by
    unfold setB
    by_cases e : i = x <;> simp [e]
  refine ⟨fun i hi => ?_, fun i hi => ?_, ?_, fun a ha b hb => ?_⟩
  · rcases (hset i).1 hi with rfl | h1
    · exact ⟨hxl, hxr⟩
    · exact h.s i h1
  · rcases List.mem_append.1 hi with h1 | h1
    · exact h.t i (by simp [h1])
    · exact ⟨hlt i h1, .step hxr ((hm i).1 h1)⟩
  · rcases h.z with h1 | h1
    · exact .inl ((hset 0).2 (.inr h1))
    · rcases List.mem_cons.1 h1 with h1 | h1
      · exact .inl ((hset 0).2 (.inl h1))
      · exact .inr (by simp [h1])
  · rcases (hset a).1 ha with rfl | h1
    · exact .inr (by simp [(hm b).2 hb])
    · rcases h.e a h1 b hb with h2 | h2
      · exact .inl ((hset b).2 (.inr h2))
      · rcases List.mem_cons.1 h2 with h2 | h2
        · exact .inl ((hset b).2 (.inl h2))
        · exact .inr (by simp [h2])
theorem Bfs.fin {ts : List Tm} {S : Nat → Bool} (h : Bfs ts S []) (hc : closed ts = true) : cntB ts.length S = (orderF ts).length := by
  have hS : ∀ i, S i = true ↔ i ∈ orderF ts := fun i => by
    rw [order_mem hc]
    constructor
    · exact fun hi => (h.s i hi).2
    · intro hi
      induction hi with
      | refl => rcases h.z with h1 | h1; exact h1; cases h1
      | step _ hb ih =>
        rcases h.e _ ih _ hb with h1 | h1
        · exact h1
        · cases h1
  apply Nat.le_antisymm
  · refine nodup_le _ _ (List.Pairwise.filter _ List.nodup_range) fun x hx => ?_
    rw [List.mem_filter] at hx
    exact (hS x).1 hx.2
  · refine nodup_le _ _ (order_nodup hc) fun x hx => ?_
    rw [List.mem_filter]
    have := (hS x).2 hx
    exact ⟨by simpa using (h.s x this).1, this⟩
def boolsL (n : Nat) (S : Nat → Bool) : List Value := (List.range n).map fun i => .bool (S i)
theorem boolsL_len (n : Nat) (S : Nat → Bool) : (boolsL n S).length = n := by simp [boolsL]
theorem boolsL_get {n i : Nat} {S : Nat → Bool} (h : i < n) : (boolsL n S)[i]? = some (.bool (S i)) := by simp [boolsL, h]
theorem boolsL_set {n x : Nat} {S : Nat → Bool} : (boolsL n S).set x (.bool true) = boolsL n (setB S x) := by
  apply List.ext_getElem?
  intro i
  rw [List.getElem?_set]
  unfold setB
  by_cases hi : i < n
  · by_cases e : x = i
    · subst e; simp [boolsL, hi]
    · rw [if_neg e, boolsL_get hi, boolsL_get hi, if_neg (fun e2 => e e2.symm)]
  · have h1 : (boolsL n S)[i]? = none := List.getElem?_eq_none (by rw [boolsL_len]; omega)
    have h2 : (boolsL n fun j => if j = x then true else S j)[i]? = none := List.getElem?_eq_none (by rw [boolsL_len]; omega)
    rw [h1, h2]
    split
    · split
      · rename_i h3; rw [boolsL_len] at h3; omega
      · rfl
    · rfl
theorem made_bools (n : Nat) : (madeCells #[.bool false] (n * 1)).toList.take (n * 1) = boolsL n fun _ => false := by
  rw [Nat.mul_one, List.take_of_length_le (by simp [madeCells])]
  apply List.ext_getElem?
  intro i
  by_cases h : i < n
  · simp [madeCells, boolsL, h]
    rw [Nat.mod_one]; rfl
  · simp [madeCells, boolsL, h]
/-- Where an end may go, as naturals. -/
def toN (t : Tm) : List Nat := (toL t).map Int.toNat
theorem toN_ints {t : Tm} (h : ∀ n ∈ toL t, 0 ≤ n) : ints (toL t) = (toN t).map fun n : Nat => .int .i64 (n : Int) := by
  unfold ints toN
  rw [List.map_map]
  apply List.map_congr_left
  intro n hn
  have := h n hn
  simp; omega
theorem mem_toN {t : Tm} (h : ∀ n ∈ toL t, 0 ≤ n) (b : Nat) : b ∈ toN t ↔ (b : Int) ∈ toL t := by
  unfold toN
  rw [List.mem_map]
  constructor
  · rintro ⟨n, hn, rfl⟩
    have := h n hn
    rw [show ((n.toNat : Nat) : Int) = n by omega]; exact hn
  · exact fun hb => ⟨_, hb, by simp⟩
end Go.Proofs.YtbcnejobnmljlaaDoor

