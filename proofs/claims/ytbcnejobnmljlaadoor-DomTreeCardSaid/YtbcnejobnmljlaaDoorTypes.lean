/- Facts on types, and that functions are entered; by gen.py. -/
import Derived.Test.YtbcnejobnmljlaaDoorMap
import Derived.Test.YtbcnejobnmljlaaDoorProg
import Derived.KernelRfl
namespace Go.Proofs.YtbcnejobnmljlaaDoor
set_option linter.unusedVariables false
open Go
set_option maxRecDepth 100000
theorem sz_L_L_L_int : (Tryd.prog.info? 52).map (·.size) = some 1 := by kernel_rfl
theorem zr_L_L_L_int : ZrT Tryd.prog 52 (.slice none 0 0) := .mk (by kernel_rfl)
theorem one_L_L_L_int : OneT Tryd.prog 52 := .mk (by kernel_rfl)
theorem sl_L_L_L_int : SlT Tryd.prog 52 51 1 24 := ⟨by kernel_rfl, by kernel_rfl⟩
theorem sz_L_L_int : (Tryd.prog.info? 51).map (·.size) = some 1 := by kernel_rfl
theorem zr_L_L_int : ZrT Tryd.prog 51 (.slice none 0 0) := .mk (by kernel_rfl)
theorem one_L_L_int : OneT Tryd.prog 51 := .mk (by kernel_rfl)
theorem sl_L_L_int : SlT Tryd.prog 51 22 1 24 := ⟨by kernel_rfl, by kernel_rfl⟩
theorem sz_L_api_Block : (Tryd.prog.info? 36).map (·.size) = some 1 := by kernel_rfl
theorem zr_L_api_Block : ZrT Tryd.prog 36 (.slice none 0 0) := .mk (by kernel_rfl)
theorem one_L_api_Block : OneT Tryd.prog 36 := .mk (by kernel_rfl)
theorem sl_L_api_Block : SlT Tryd.prog 36 66 5 56 := ⟨by kernel_rfl, by kernel_rfl⟩
theorem sz_L_api_Edge : (Tryd.prog.info? 42).map (·.size) = some 1 := by kernel_rfl
theorem zr_L_api_Edge : ZrT Tryd.prog 42 (.slice none 0 0) := .mk (by kernel_rfl)
theorem one_L_api_Edge : OneT Tryd.prog 42 := .mk (by kernel_rfl)
theorem sl_L_api_Edge : SlT Tryd.prog 42 47 3 24 := ⟨by kernel_rfl, by kernel_rfl⟩
theorem sz_L_api_Ins : (Tryd.prog.info? 60).map (·.size) = some 1 := by kernel_rfl
theorem zr_L_api_Ins : ZrT Tryd.prog 60 (.slice none 0 0) := .mk (by kernel_rfl)
theorem one_L_api_Ins : OneT Tryd.prog 60 := .mk (by kernel_rfl)
theorem sl_L_api_Ins : SlT Tryd.prog 60 72 8 80 := ⟨by kernel_rfl, by kernel_rfl⟩
theorem sz_L_bits_Set : (Tryd.prog.info? 100).map (·.size) = some 1 := by kernel_rfl
theorem zr_L_bits_Set : ZrT Tryd.prog 100 (.slice none 0 0) := .mk (by kernel_rfl)
theorem one_L_bits_Set : OneT Tryd.prog 100 := .mk (by kernel_rfl)
theorem sl_L_bits_Set : SlT Tryd.prog 100 27 16 128 := ⟨by kernel_rfl, by kernel_rfl⟩
theorem sz_L_bool : (Tryd.prog.info? 126).map (·.size) = some 1 := by kernel_rfl
theorem zr_L_bool : ZrT Tryd.prog 126 (.slice none 0 0) := .mk (by kernel_rfl)
theorem one_L_bool : OneT Tryd.prog 126 := .mk (by kernel_rfl)
theorem sl_L_bool : SlT Tryd.prog 126 4 1 1 := ⟨by kernel_rfl, by kernel_rfl⟩
theorem sz_L_int : (Tryd.prog.info? 22).map (·.size) = some 1 := by kernel_rfl
theorem zr_L_int : ZrT Tryd.prog 22 (.slice none 0 0) := .mk (by kernel_rfl)
theorem one_L_int : OneT Tryd.prog 22 := .mk (by kernel_rfl)
theorem sl_L_int : SlT Tryd.prog 22 3 1 8 := ⟨by kernel_rfl, by kernel_rfl⟩
theorem sz_L_ir_set : (Tryd.prog.info? 127).map (·.size) = some 1 := by kernel_rfl
theorem zr_L_ir_set : ZrT Tryd.prog 127 (.slice none 0 0) := .mk (by kernel_rfl)
theorem one_L_ir_set : OneT Tryd.prog 127 := .mk (by kernel_rfl)
theorem sl_L_ir_set : SlT Tryd.prog 127 124 201 201 := ⟨by kernel_rfl, by kernel_rfl⟩
theorem sz_P_ir_set : (Tryd.prog.info? 152).map (·.size) = some 1 := by kernel_rfl
theorem zr_P_ir_set : ZrT Tryd.prog 152 (.pointer none) := .mk (by kernel_rfl)
theorem one_P_ir_set : OneT Tryd.prog 152 := .mk (by kernel_rfl)
theorem sz_api_Errno : (Tryd.prog.info? 55).map (·.size) = some 1 := by kernel_rfl
theorem zr_api_Errno : ZrT Tryd.prog 55 (.int .i64 0) := .mk (by kernel_rfl)
theorem one_api_Errno : OneT Tryd.prog 55 := .mk (by kernel_rfl)
theorem in_api_Errno : InT Tryd.prog 55 .i64 := .mk (by kernel_rfl)
theorem pr_api_Errno : primT Tryd.prog 55 (.int .i64) := ⟨in_api_Errno, rfl, sz_api_Errno⟩
theorem sz_api_Op : (Tryd.prog.info? 70).map (·.size) = some 1 := by kernel_rfl
theorem zr_api_Op : ZrT Tryd.prog 70 (.int .i64 0) := .mk (by kernel_rfl)
theorem one_api_Op : OneT Tryd.prog 70 := .mk (by kernel_rfl)
theorem in_api_Op : InT Tryd.prog 70 .i64 := .mk (by kernel_rfl)
theorem pr_api_Op : primT Tryd.prog 70 (.int .i64) := ⟨in_api_Op, rfl, sz_api_Op⟩
theorem sz_api_TermKind : (Tryd.prog.info? 61).map (·.size) = some 1 := by kernel_rfl
theorem zr_api_TermKind : ZrT Tryd.prog 61 (.int .i64 0) := .mk (by kernel_rfl)
theorem one_api_TermKind : OneT Tryd.prog 61 := .mk (by kernel_rfl)
theorem in_api_TermKind : InT Tryd.prog 61 .i64 := .mk (by kernel_rfl)
theorem pr_api_TermKind : primT Tryd.prog 61 (.int .i64) := ⟨in_api_TermKind, rfl, sz_api_TermKind⟩
theorem sz_bool : (Tryd.prog.info? 4).map (·.size) = some 1 := by kernel_rfl
theorem zr_bool : ZrT Tryd.prog 4 (.bool false) := .mk (by kernel_rfl)
theorem one_bool : OneT Tryd.prog 4 := .mk (by kernel_rfl)
theorem bo_bool : Tryd.prog.underlying 4 = some .bool := by kernel_rfl
theorem pr_bool : primT Tryd.prog 4 .bool := ⟨bo_bool, rfl, sz_bool⟩
theorem sz_func_api_Block_bool : (Tryd.prog.info? 123).map (·.size) = some 1 := by kernel_rfl
theorem zr_func_api_Block_bool : ZrT Tryd.prog 123 .nilFunc := .mk (by kernel_rfl)
theorem one_func_api_Block_bool : OneT Tryd.prog 123 := .mk (by kernel_rfl)
theorem sz_func_api_Edge_bool : (Tryd.prog.info? 92).map (·.size) = some 1 := by kernel_rfl
theorem zr_func_api_Edge_bool : ZrT Tryd.prog 92 .nilFunc := .mk (by kernel_rfl)
theorem one_func_api_Edge_bool : OneT Tryd.prog 92 := .mk (by kernel_rfl)
theorem sz_func_api_Ins_bool : (Tryd.prog.info? 111).map (·.size) = some 1 := by kernel_rfl
theorem zr_func_api_Ins_bool : ZrT Tryd.prog 111 .nilFunc := .mk (by kernel_rfl)
theorem one_func_api_Ins_bool : OneT Tryd.prog 111 := .mk (by kernel_rfl)
theorem sz_func_func_api_Edge_bool : (Tryd.prog.info? 88).map (·.size) = some 1 := by kernel_rfl
theorem zr_func_func_api_Edge_bool : ZrT Tryd.prog 88 .nilFunc := .mk (by kernel_rfl)
theorem one_func_func_api_Edge_bool : OneT Tryd.prog 88 := .mk (by kernel_rfl)
theorem sz_func_func_int_api_Block_bool : (Tryd.prog.info? 114).map (·.size) = some 1 := by kernel_rfl
theorem zr_func_func_int_api_Block_bool : ZrT Tryd.prog 114 .nilFunc := .mk (by kernel_rfl)
theorem one_func_func_int_api_Block_bool : OneT Tryd.prog 114 := .mk (by kernel_rfl)
theorem sz_func_func_int_api_Ins_bool : (Tryd.prog.info? 118).map (·.size) = some 1 := by kernel_rfl
theorem zr_func_func_int_api_Ins_bool : ZrT Tryd.prog 118 .nilFunc := .mk (by kernel_rfl)
theorem one_func_func_int_api_Ins_bool : OneT Tryd.prog 118 := .mk (by kernel_rfl)
theorem sz_func_func_int_bits_Set_bool : (Tryd.prog.info? 104).map (·.size) = some 1 := by kernel_rfl
theorem zr_func_func_int_bits_Set_bool : ZrT Tryd.prog 104 .nilFunc := .mk (by kernel_rfl)
theorem one_func_func_int_bits_Set_bool : OneT Tryd.prog 104 := .mk (by kernel_rfl)
theorem sz_func_func_int_bool : (Tryd.prog.info? 78).map (·.size) = some 1 := by kernel_rfl
theorem zr_func_func_int_bool : ZrT Tryd.prog 78 .nilFunc := .mk (by kernel_rfl)
theorem one_func_func_int_bool : OneT Tryd.prog 78 := .mk (by kernel_rfl)
theorem sz_func_int : (Tryd.prog.info? 87).map (·.size) = some 1 := by kernel_rfl
theorem zr_func_int : ZrT Tryd.prog 87 .nilFunc := .mk (by kernel_rfl)
theorem one_func_int : OneT Tryd.prog 87 := .mk (by kernel_rfl)
theorem sz_func_int_api_Block_bool : (Tryd.prog.info? 142).map (·.size) = some 1 := by kernel_rfl
theorem zr_func_int_api_Block_bool : ZrT Tryd.prog 142 .nilFunc := .mk (by kernel_rfl)
theorem one_func_int_api_Block_bool : OneT Tryd.prog 142 := .mk (by kernel_rfl)
theorem sz_func_int_api_Ins_bool : (Tryd.prog.info? 143).map (·.size) = some 1 := by kernel_rfl
theorem zr_func_int_api_Ins_bool : ZrT Tryd.prog 143 .nilFunc := .mk (by kernel_rfl)
theorem one_func_int_api_Ins_bool : OneT Tryd.prog 143 := .mk (by kernel_rfl)
theorem sz_func_int_bits_Set_bool : (Tryd.prog.info? 117).map (·.size) = some 1 := by kernel_rfl
theorem zr_func_int_bits_Set_bool : ZrT Tryd.prog 117 .nilFunc := .mk (by kernel_rfl)
theorem one_func_int_bits_Set_bool : OneT Tryd.prog 117 := .mk (by kernel_rfl)
theorem sz_func_int_bool : (Tryd.prog.info? 32).map (·.size) = some 1 := by kernel_rfl
theorem zr_func_int_bool : ZrT Tryd.prog 32 .nilFunc := .mk (by kernel_rfl)
theorem one_func_int_bool : OneT Tryd.prog 32 := .mk (by kernel_rfl)
theorem sz_int : (Tryd.prog.info? 3).map (·.size) = some 1 := by kernel_rfl
theorem zr_int : ZrT Tryd.prog 3 (.int .i64 0) := .mk (by kernel_rfl)
theorem one_int : OneT Tryd.prog 3 := .mk (by kernel_rfl)
theorem in_int : InT Tryd.prog 3 .i64 := .mk (by kernel_rfl)
theorem pr_int : primT Tryd.prog 3 (.int .i64) := ⟨in_int, rfl, sz_int⟩
theorem sz_int64 : (Tryd.prog.info? 2).map (·.size) = some 1 := by kernel_rfl
theorem zr_int64 : ZrT Tryd.prog 2 (.int .i64 0) := .mk (by kernel_rfl)
theorem one_int64 : OneT Tryd.prog 2 := .mk (by kernel_rfl)
theorem in_int64 : InT Tryd.prog 2 .i64 := .mk (by kernel_rfl)
theorem pr_int64 : primT Tryd.prog 2 (.int .i64) := ⟨in_int64, rfl, sz_int64⟩
theorem sz_interface : (Tryd.prog.info? 20).map (·.size) = some 1 := by kernel_rfl
theorem zr_interface : ZrT Tryd.prog 20 .nilIface := .mk (by kernel_rfl)
theorem one_interface : OneT Tryd.prog 20 := .mk (by kernel_rfl)
theorem sz_iter_Seq2_int_api_Block : (Tryd.prog.info? 115).map (·.size) = some 1 := by kernel_rfl
theorem zr_iter_Seq2_int_api_Block : ZrT Tryd.prog 115 .nilFunc := .mk (by kernel_rfl)
theorem one_iter_Seq2_int_api_Block : OneT Tryd.prog 115 := .mk (by kernel_rfl)
theorem sz_iter_Seq2_int_api_Ins : (Tryd.prog.info? 119).map (·.size) = some 1 := by kernel_rfl
theorem zr_iter_Seq2_int_api_Ins : ZrT Tryd.prog 119 .nilFunc := .mk (by kernel_rfl)
theorem one_iter_Seq2_int_api_Ins : OneT Tryd.prog 119 := .mk (by kernel_rfl)
theorem sz_iter_Seq2_int_bits_Set : (Tryd.prog.info? 105).map (·.size) = some 1 := by kernel_rfl
theorem zr_iter_Seq2_int_bits_Set : ZrT Tryd.prog 105 .nilFunc := .mk (by kernel_rfl)
theorem one_iter_Seq2_int_bits_Set : OneT Tryd.prog 105 := .mk (by kernel_rfl)
theorem sz_iter_Seq_api_Edge : (Tryd.prog.info? 89).map (·.size) = some 1 := by kernel_rfl
theorem zr_iter_Seq_api_Edge : ZrT Tryd.prog 89 .nilFunc := .mk (by kernel_rfl)
theorem one_iter_Seq_api_Edge : OneT Tryd.prog 89 := .mk (by kernel_rfl)
theorem sz_iter_Seq_int : (Tryd.prog.info? 79).map (·.size) = some 1 := by kernel_rfl
theorem zr_iter_Seq_int : ZrT Tryd.prog 79 .nilFunc := .mk (by kernel_rfl)
theorem one_iter_Seq_int : OneT Tryd.prog 79 := .mk (by kernel_rfl)
theorem sz_string : (Tryd.prog.info? 9).map (·.size) = some 1 := by kernel_rfl
theorem zr_string : ZrT Tryd.prog 9 (.string ByteArray.empty) := .mk (by kernel_rfl)
theorem one_string : OneT Tryd.prog 9 := .mk (by kernel_rfl)
theorem sz_uint : (Tryd.prog.info? 77).map (·.size) = some 1 := by kernel_rfl
theorem zr_uint : ZrT Tryd.prog 77 (.int .u64 0) := .mk (by kernel_rfl)
theorem one_uint : OneT Tryd.prog 77 := .mk (by kernel_rfl)
theorem in_uint : InT Tryd.prog 77 .u64 := .mk (by kernel_rfl)
theorem pr_uint : primT Tryd.prog 77 (.int .u64) := ⟨in_uint, rfl, sz_uint⟩
theorem sz_uint32 : (Tryd.prog.info? 147).map (·.size) = some 1 := by kernel_rfl
theorem zr_uint32 : ZrT Tryd.prog 147 (.int .u32 0) := .mk (by kernel_rfl)
theorem one_uint32 : OneT Tryd.prog 147 := .mk (by kernel_rfl)
theorem in_uint32 : InT Tryd.prog 147 .u32 := .mk (by kernel_rfl)
theorem pr_uint32 : primT Tryd.prog 147 (.int .u32) := ⟨in_uint32, rfl, sz_uint32⟩
theorem sz_uint64 : (Tryd.prog.info? 25).map (·.size) = some 1 := by kernel_rfl
theorem zr_uint64 : ZrT Tryd.prog 25 (.int .u64 0) := .mk (by kernel_rfl)
theorem one_uint64 : OneT Tryd.prog 25 := .mk (by kernel_rfl)
theorem in_uint64 : InT Tryd.prog 25 .u64 := .mk (by kernel_rfl)
theorem pr_uint64 : primT Tryd.prog 25 (.int .u64) := ⟨in_uint64, rfl, sz_uint64⟩
theorem sz_uint8 : (Tryd.prog.info? 5).map (·.size) = some 1 := by kernel_rfl
theorem zr_uint8 : ZrT Tryd.prog 5 (.int .u8 0) := .mk (by kernel_rfl)
theorem one_uint8 : OneT Tryd.prog 5 := .mk (by kernel_rfl)
theorem in_uint8 : InT Tryd.prog 5 .u8 := .mk (by kernel_rfl)
theorem pr_uint8 : primT Tryd.prog 5 (.int .u8) := ⟨in_uint8, rfl, sz_uint8⟩
theorem sz_A201_bool : (Tryd.prog.info? 68).map (·.size) = some 201 := by kernel_rfl
theorem zr_A201_bool : ZrT Tryd.prog 68 (.agg (Array.replicate 201 (.bool false))) := .mk (by kernel_rfl)
theorem ag_A201_bool : AggT Tryd.prog 68 201 := .mk (by kernel_rfl) (by kernel_rfl)
theorem ar_A201_bool : ArT Tryd.prog 68 201 4 1 := ⟨by kernel_rfl, by kernel_rfl⟩
theorem cm_A201_bool : CmA Tryd.prog 68 201 .bool := ⟨_, ar_A201_bool.1, pr_bool, by kernel_rfl⟩
theorem sz_A2_int : (Tryd.prog.info? 62).map (·.size) = some 2 := by kernel_rfl
theorem zr_A2_int : ZrT Tryd.prog 62 (.agg #[(.int .i64 0), (.int .i64 0)]) := .mk (by kernel_rfl)
theorem ag_A2_int : AggT Tryd.prog 62 2 := .mk (by kernel_rfl) (by kernel_rfl)
theorem ar_A2_int : ArT Tryd.prog 62 2 3 1 := ⟨by kernel_rfl, by kernel_rfl⟩
theorem cm_A2_int : CmA Tryd.prog 62 2 (.int .i64) := ⟨_, ar_A2_int.1, pr_int, by kernel_rfl⟩
theorem sz_A64_uint8 : (Tryd.prog.info? 139).map (·.size) = some 64 := by kernel_rfl
theorem zr_A64_uint8 : ZrT Tryd.prog 139 (.agg (Array.replicate 64 (.int .u8 0))) := .mk (by kernel_rfl)
theorem ag_A64_uint8 : AggT Tryd.prog 139 64 := .mk (by kernel_rfl) (by kernel_rfl)
theorem ar_A64_uint8 : ArT Tryd.prog 139 64 5 1 := ⟨by kernel_rfl, by kernel_rfl⟩
theorem cm_A64_uint8 : CmA Tryd.prog 139 64 (.int .u8) := ⟨_, ar_A64_uint8.1, pr_uint8, by kernel_rfl⟩
theorem sz_api_Block : (Tryd.prog.info? 66).map (·.size) = some 5 := by kernel_rfl
theorem zr_api_Block : ZrT Tryd.prog 66 (.agg #[(.slice none 0 0), (.int .i64 0), (.int .i64 0), (.int .i64 0), (.int .i64 0)]) := .mk (by kernel_rfl)
theorem ag_api_Block : AggT Tryd.prog 66 5 := .mk (by kernel_rfl) (by kernel_rfl)
theorem bs_api_Block : stB Tryd.prog 66 = some [(0, 1), (1, 4)] := by kernel_rfl
theorem fd_api_Block_0 : FdT Tryd.prog 66 0 0 := ⟨0, by kernel_rfl⟩
theorem fv_api_Block_0 : fieldV Tryd.prog 66 0 = some (0, 60) := by kernel_rfl
theorem fd_api_Block_1 : FdT Tryd.prog 66 1 1 := ⟨3, by kernel_rfl⟩
theorem fv_api_Block_1 : fieldV Tryd.prog 66 1 = some (1, 64) := by kernel_rfl
theorem sz_api_Edge : (Tryd.prog.info? 47).map (·.size) = some 3 := by kernel_rfl
theorem zr_api_Edge : ZrT Tryd.prog 47 (.agg #[(.int .i64 0), (.int .i64 0), (.int .i64 0)]) := .mk (by kernel_rfl)
theorem ag_api_Edge : AggT Tryd.prog 47 3 := .mk (by kernel_rfl) (by kernel_rfl)
theorem bs_api_Edge : stB Tryd.prog 47 = some [(0, 1), (1, 1), (2, 1)] := by kernel_rfl
theorem fd_api_Edge_0 : FdT Tryd.prog 47 0 0 := ⟨0, by kernel_rfl⟩
theorem fv_api_Edge_0 : fieldV Tryd.prog 47 0 = some (0, 3) := by kernel_rfl
theorem fd_api_Edge_1 : FdT Tryd.prog 47 1 1 := ⟨0, by kernel_rfl⟩
theorem fv_api_Edge_1 : fieldV Tryd.prog 47 1 = some (1, 3) := by kernel_rfl
theorem fd_api_Edge_2 : FdT Tryd.prog 47 2 2 := ⟨0, by kernel_rfl⟩
theorem fv_api_Edge_2 : fieldV Tryd.prog 47 2 = some (2, 3) := by kernel_rfl
theorem sz_api_Func : (Tryd.prog.info? 38).map (·.size) = some 2 := by kernel_rfl
theorem zr_api_Func : ZrT Tryd.prog 38 (.agg #[(.slice none 0 0), (.slice none 0 0)]) := .mk (by kernel_rfl)
theorem ag_api_Func : AggT Tryd.prog 38 2 := .mk (by kernel_rfl) (by kernel_rfl)
theorem bs_api_Func : stB Tryd.prog 38 = some [(0, 1), (1, 1)] := by kernel_rfl
theorem fd_api_Func_0 : FdT Tryd.prog 38 0 0 := ⟨0, by kernel_rfl⟩
theorem fv_api_Func_0 : fieldV Tryd.prog 38 0 = some (0, 22) := by kernel_rfl
theorem fd_api_Func_1 : FdT Tryd.prog 38 1 1 := ⟨0, by kernel_rfl⟩
theorem fv_api_Func_1 : fieldV Tryd.prog 38 1 = some (1, 36) := by kernel_rfl
theorem sz_api_Ins : (Tryd.prog.info? 72).map (·.size) = some 8 := by kernel_rfl
theorem zr_api_Ins : ZrT Tryd.prog 72 (.agg #[(.int .i64 0), (.int .i64 0), (.int .i64 0), (.int .i64 0), (.int .i64 0), (.int .i64 0), (.slice none 0 0), (.int .i64 0)]) := .mk (by kernel_rfl)
theorem ag_api_Ins : AggT Tryd.prog 72 8 := .mk (by kernel_rfl) (by kernel_rfl)
theorem bs_api_Ins : stB Tryd.prog 72 = some [(0, 1), (1, 1), (2, 1), (3, 1), (4, 1), (5, 1), (6, 1), (7, 1)] := by kernel_rfl
theorem fd_api_Ins_0 : FdT Tryd.prog 72 0 0 := ⟨0, by kernel_rfl⟩
theorem fv_api_Ins_0 : fieldV Tryd.prog 72 0 = some (0, 70) := by kernel_rfl
theorem fd_api_Ins_1 : FdT Tryd.prog 72 1 1 := ⟨0, by kernel_rfl⟩
theorem fv_api_Ins_1 : fieldV Tryd.prog 72 1 = some (1, 3) := by kernel_rfl
theorem fd_api_Ins_2 : FdT Tryd.prog 72 2 2 := ⟨0, by kernel_rfl⟩
theorem fv_api_Ins_2 : fieldV Tryd.prog 72 2 = some (2, 3) := by kernel_rfl
theorem fd_api_Ins_3 : FdT Tryd.prog 72 3 3 := ⟨0, by kernel_rfl⟩
theorem fv_api_Ins_3 : fieldV Tryd.prog 72 3 = some (3, 3) := by kernel_rfl
theorem fd_api_Ins_4 : FdT Tryd.prog 72 4 4 := ⟨0, by kernel_rfl⟩
theorem fv_api_Ins_4 : fieldV Tryd.prog 72 4 = some (4, 3) := by kernel_rfl
theorem fd_api_Ins_5 : FdT Tryd.prog 72 5 5 := ⟨0, by kernel_rfl⟩
theorem fv_api_Ins_5 : fieldV Tryd.prog 72 5 = some (5, 3) := by kernel_rfl
theorem fd_api_Ins_6 : FdT Tryd.prog 72 6 6 := ⟨0, by kernel_rfl⟩
theorem fv_api_Ins_6 : fieldV Tryd.prog 72 6 = some (6, 22) := by kernel_rfl
theorem fd_api_Ins_7 : FdT Tryd.prog 72 7 7 := ⟨0, by kernel_rfl⟩
theorem fv_api_Ins_7 : fieldV Tryd.prog 72 7 = some (7, 3) := by kernel_rfl
theorem sz_api_Term : (Tryd.prog.info? 64).map (·.size) = some 4 := by kernel_rfl
theorem zr_api_Term : ZrT Tryd.prog 64 (.agg #[(.int .i64 0), (.int .i64 0), (.int .i64 0), (.int .i64 0)]) := .mk (by kernel_rfl)
theorem ag_api_Term : AggT Tryd.prog 64 4 := .mk (by kernel_rfl) (by kernel_rfl)
theorem bs_api_Term : stB Tryd.prog 64 = some [(0, 1), (1, 1), (2, 2)] := by kernel_rfl
theorem fd_api_Term_0 : FdT Tryd.prog 64 0 0 := ⟨0, by kernel_rfl⟩
theorem fv_api_Term_0 : fieldV Tryd.prog 64 0 = some (0, 61) := by kernel_rfl
theorem fd_api_Term_1 : FdT Tryd.prog 64 1 1 := ⟨0, by kernel_rfl⟩
theorem fv_api_Term_1 : fieldV Tryd.prog 64 1 = some (1, 3) := by kernel_rfl
theorem fd_api_Term_2 : FdT Tryd.prog 64 2 2 := ⟨1, by kernel_rfl⟩
theorem fv_api_Term_2 : fieldV Tryd.prog 64 2 = some (2, 62) := by kernel_rfl
theorem sz_bits_Set : (Tryd.prog.info? 27).map (·.size) = some 16 := by kernel_rfl
theorem zr_bits_Set : ZrT Tryd.prog 27 (.agg #[(.int .u64 0), (.int .u64 0), (.int .u64 0), (.int .u64 0), (.int .u64 0), (.int .u64 0), (.int .u64 0), (.int .u64 0), (.int .u64 0), (.int .u64 0), (.int .u64 0), (.int .u64 0), (.int .u64 0), (.int .u64 0), (.int .u64 0), (.int .u64 0)]) := .mk (by kernel_rfl)
theorem ag_bits_Set : AggT Tryd.prog 27 16 := .mk (by kernel_rfl) (by kernel_rfl)
theorem ar_bits_Set : ArT Tryd.prog 27 16 25 1 := ⟨by kernel_rfl, by kernel_rfl⟩
theorem cm_bits_Set : CmA Tryd.prog 27 16 (.int .u64) := ⟨_, ar_bits_Set.1, pr_uint64, by kernel_rfl⟩
theorem sz_dom_tree : (Tryd.prog.info? 96).map (·.size) = some 2 := by kernel_rfl
theorem zr_dom_tree : ZrT Tryd.prog 96 (.agg #[(.slice none 0 0), (.slice none 0 0)]) := .mk (by kernel_rfl)
theorem ag_dom_tree : AggT Tryd.prog 96 2 := .mk (by kernel_rfl) (by kernel_rfl)
theorem bs_dom_tree : stB Tryd.prog 96 = some [(0, 1), (1, 1)] := by kernel_rfl
theorem fd_dom_tree_0 : FdT Tryd.prog 96 0 0 := ⟨0, by kernel_rfl⟩
theorem fv_dom_tree_0 : fieldV Tryd.prog 96 0 = some (0, 22) := by kernel_rfl
theorem fd_dom_tree_1 : FdT Tryd.prog 96 1 1 := ⟨0, by kernel_rfl⟩
theorem fv_dom_tree_1 : fieldV Tryd.prog 96 1 = some (1, 22) := by kernel_rfl
theorem sz_ir_set : (Tryd.prog.info? 124).map (·.size) = some 201 := by kernel_rfl
theorem zr_ir_set : ZrT Tryd.prog 124 (.agg (Array.replicate 201 (.bool false))) := .mk (by kernel_rfl)
theorem ag_ir_set : AggT Tryd.prog 124 201 := .mk (by kernel_rfl) (by kernel_rfl)
theorem ar_ir_set : ArT Tryd.prog 124 201 4 1 := ⟨by kernel_rfl, by kernel_rfl⟩
theorem cm_ir_set : CmA Tryd.prog 124 201 .bool := ⟨_, ar_ir_set.1, pr_bool, by kernel_rfl⟩
theorem sz_ir_shape : (Tryd.prog.info? 135).map (·.size) = some 5 := by kernel_rfl
theorem zr_ir_shape : ZrT Tryd.prog 135 (.agg #[(.bool false), (.bool false), (.bool false), (.bool false), (.bool false)]) := .mk (by kernel_rfl)
theorem ag_ir_shape : AggT Tryd.prog 135 5 := .mk (by kernel_rfl) (by kernel_rfl)
theorem bs_ir_shape : stB Tryd.prog 135 = some [(0, 1), (1, 1), (2, 1), (3, 1), (4, 1)] := by kernel_rfl
theorem fd_ir_shape_0 : FdT Tryd.prog 135 0 0 := ⟨0, by kernel_rfl⟩
theorem fv_ir_shape_0 : fieldV Tryd.prog 135 0 = some (0, 4) := by kernel_rfl
theorem fd_ir_shape_1 : FdT Tryd.prog 135 1 1 := ⟨0, by kernel_rfl⟩
theorem fv_ir_shape_1 : fieldV Tryd.prog 135 1 = some (1, 4) := by kernel_rfl
theorem fd_ir_shape_2 : FdT Tryd.prog 135 2 2 := ⟨0, by kernel_rfl⟩
theorem fv_ir_shape_2 : fieldV Tryd.prog 135 2 = some (2, 4) := by kernel_rfl
theorem fd_ir_shape_3 : FdT Tryd.prog 135 3 3 := ⟨0, by kernel_rfl⟩
theorem fv_ir_shape_3 : fieldV Tryd.prog 135 3 = some (3, 4) := by kernel_rfl
theorem fd_ir_shape_4 : FdT Tryd.prog 135 4 4 := ⟨0, by kernel_rfl⟩
theorem fv_ir_shape_4 : fieldV Tryd.prog 135 4 = some (4, 4) := by kernel_rfl
theorem sz_live_Live : (Tryd.prog.info? 54).map (·.size) = some 3 := by kernel_rfl
theorem zr_live_Live : ZrT Tryd.prog 54 (.agg #[(.slice none 0 0), (.slice none 0 0), (.slice none 0 0)]) := .mk (by kernel_rfl)
theorem ag_live_Live : AggT Tryd.prog 54 3 := .mk (by kernel_rfl) (by kernel_rfl)
theorem bs_live_Live : stB Tryd.prog 54 = some [(0, 1), (1, 1), (2, 1)] := by kernel_rfl
theorem fd_live_Live_0 : FdT Tryd.prog 54 0 0 := ⟨0, by kernel_rfl⟩
theorem fv_live_Live_0 : fieldV Tryd.prog 54 0 = some (0, 51) := by kernel_rfl
theorem fd_live_Live_1 : FdT Tryd.prog 54 1 1 := ⟨0, by kernel_rfl⟩
theorem fv_live_Live_1 : fieldV Tryd.prog 54 1 = some (1, 51) := by kernel_rfl
theorem fd_live_Live_2 : FdT Tryd.prog 54 2 2 := ⟨0, by kernel_rfl⟩
theorem fv_live_Live_2 : fieldV Tryd.prog 54 2 = some (2, 52) := by kernel_rfl
theorem sz_live_flow : (Tryd.prog.info? 102).map (·.size) = some 2 := by kernel_rfl
theorem zr_live_flow : ZrT Tryd.prog 102 (.agg #[(.slice none 0 0), (.slice none 0 0)]) := .mk (by kernel_rfl)
theorem ag_live_flow : AggT Tryd.prog 102 2 := .mk (by kernel_rfl) (by kernel_rfl)
theorem bs_live_flow : stB Tryd.prog 102 = some [(0, 1), (1, 1)] := by kernel_rfl
theorem fd_live_flow_0 : FdT Tryd.prog 102 0 0 := ⟨0, by kernel_rfl⟩
theorem fv_live_flow_0 : fieldV Tryd.prog 102 0 = some (0, 100) := by kernel_rfl
theorem fd_live_flow_1 : FdT Tryd.prog 102 1 1 := ⟨0, by kernel_rfl⟩
theorem fv_live_flow_1 : fieldV Tryd.prog 102 1 = some (1, 100) := by kernel_rfl
theorem sz_map_int_int : (Tryd.prog.info? 93).map (·.size) = some 1 := by kernel_rfl
theorem zr_map_int_int : ZrT Tryd.prog 93 (.map none) := .mk (by kernel_rfl)
theorem one_map_int_int : OneT Tryd.prog 93 := .mk (by kernel_rfl)
theorem mt_map_int_int : MpT Tryd.prog 93 (.int .i64 0) := ⟨3, 3, by kernel_rfl, by kernel_rfl, zr_int⟩
theorem mp_map_int_int : Tryd.prog.underlying 93 = some (.map 3 3) := by kernel_rfl
theorem en_P_ir_set_has : Ent Tryd.prog 107 := Ent.mk Tryd.func107 rfl (by kernel_rfl)
theorem en_P_ir_set_has_1 : Ent Tryd.prog 112 := Ent.mk Tryd.func112 rfl (by kernel_rfl)
theorem en_bits_Set_And : Ent Tryd.prog 19 := Ent.mk Tryd.func19 rfl (by kernel_rfl)
theorem en_bits_Set_First : Ent Tryd.prog 22 := Ent.mk Tryd.func22 rfl (by kernel_rfl)
theorem en_bits_Set_Has : Ent Tryd.prog 18 := Ent.mk Tryd.func18 rfl (by kernel_rfl)
theorem en_bits_Set_Less : Ent Tryd.prog 15 := Ent.mk Tryd.func15 rfl (by kernel_rfl)
theorem en_bits_Set_List : Ent Tryd.prog 20 := Ent.mk Tryd.func20 rfl (by kernel_rfl)
theorem en_bits_Set_Many : Ent Tryd.prog 21 := Ent.mk Tryd.func21 rfl (by kernel_rfl)
theorem en_bits_Set_Or : Ent Tryd.prog 16 := Ent.mk Tryd.func16 rfl (by kernel_rfl)
theorem en_bits_Set_With : Ent Tryd.prog 13 := Ent.mk Tryd.func13 rfl (by kernel_rfl)
theorem en_bits_Set_Without : Ent Tryd.prog 14 := Ent.mk Tryd.func14 rfl (by kernel_rfl)
theorem en_bits_Set_each : Ent Tryd.prog 48 := Ent.mk Tryd.func48 rfl (by kernel_rfl)
theorem en_bits_Set_each_1 : Ent Tryd.prog 77 := Ent.mk Tryd.func77 rfl (by kernel_rfl)
theorem en_dom_tree_chain : Ent Tryd.prog 83 := Ent.mk Tryd.func83 rfl (by kernel_rfl)
theorem en_dom_tree_chain_1 : Ent Tryd.prog 102 := Ent.mk Tryd.func102 rfl (by kernel_rfl)
theorem en_dom_tree_meet : Ent Tryd.prog 81 := Ent.mk Tryd.func81 rfl (by kernel_rfl)
theorem en_dom_tree_over : Ent Tryd.prog 66 := Ent.mk Tryd.func66 rfl (by kernel_rfl)
theorem en_dom_tree_reached : Ent Tryd.prog 80 := Ent.mk Tryd.func80 rfl (by kernel_rfl)
theorem en_ir_set_meet : Ent Tryd.prog 94 := Ent.mk Tryd.func94 rfl (by kernel_rfl)
theorem en_ir_set_past : Ent Tryd.prog 95 := Ent.mk Tryd.func95 rfl (by kernel_rfl)
theorem en_bits_Of : Ent Tryd.prog 12 := Ent.mk Tryd.func12 rfl (by kernel_rfl)
theorem en_dom_Both : Ent Tryd.prog 64 := Ent.mk Tryd.func64 rfl (by kernel_rfl)
theorem en_dom_Of : Ent Tryd.prog 34 := Ent.mk Tryd.func34 rfl (by kernel_rfl)
theorem en_dom_Over : Ent Tryd.prog 36 := Ent.mk Tryd.func36 rfl (by kernel_rfl)
theorem en_dom_made : Ent Tryd.prog 65 := Ent.mk Tryd.func65 rfl (by kernel_rfl)
theorem en_flow_Closed : Ent Tryd.prog 26 := Ent.mk Tryd.func26 rfl (by kernel_rfl)
theorem en_flow_Critical : Ent Tryd.prog 30 := Ent.mk Tryd.func30 rfl (by kernel_rfl)
theorem en_flow_Critical_1 : Ent Tryd.prog 59 := Ent.mk Tryd.func59 rfl (by kernel_rfl)
theorem en_flow_Edges : Ent Tryd.prog 27 := Ent.mk Tryd.func27 rfl (by kernel_rfl)
theorem en_flow_Edges_1 : Ent Tryd.prog 58 := Ent.mk Tryd.func58 rfl (by kernel_rfl)
theorem en_flow_From : Ent Tryd.prog 31 := Ent.mk Tryd.func31 rfl (by kernel_rfl)
theorem en_flow_From_1 : Ent Tryd.prog 60 := Ent.mk Tryd.func60 rfl (by kernel_rfl)
theorem en_flow_Into : Ent Tryd.prog 32 := Ent.mk Tryd.func32 rfl (by kernel_rfl)
theorem en_flow_Into_1 : Ent Tryd.prog 61 := Ent.mk Tryd.func61 rfl (by kernel_rfl)
theorem en_flow_Order : Ent Tryd.prog 25 := Ent.mk Tryd.func25 rfl (by kernel_rfl)
theorem en_flow_Order_1 : Ent Tryd.prog 55 := Ent.mk Tryd.func55 rfl (by kernel_rfl)
theorem en_flow_Reached : Ent Tryd.prog 28 := Ent.mk Tryd.func28 rfl (by kernel_rfl)
theorem en_flow_each : Ent Tryd.prog 56 := Ent.mk Tryd.func56 rfl (by kernel_rfl)
theorem en_flow_each_1 : Ent Tryd.prog 79 := Ent.mk Tryd.func79 rfl (by kernel_rfl)
theorem en_flow_some : Ent Tryd.prog 57 := Ent.mk Tryd.func57 rfl (by kernel_rfl)
theorem en_kit_BlocksOf : Ent Tryd.prog 54 := Ent.mk Tryd.func54 rfl (by kernel_rfl)
theorem en_kit_FuncOf : Ent Tryd.prog 24 := Ent.mk Tryd.func24 rfl (by kernel_rfl)
theorem en_kit_Pick : Ent Tryd.prog 11 := Ent.mk Tryd.func11 rfl (by kernel_rfl)
theorem en_kit_SameInts : Ent Tryd.prog 53 := Ent.mk Tryd.func53 rfl (by kernel_rfl)
theorem en_law10_FlowCounts : Ent Tryd.prog 6 := Ent.mk Tryd.func6 rfl (by kernel_rfl)
theorem en_law10_FlowOrder : Ent Tryd.prog 5 := Ent.mk Tryd.func5 rfl (by kernel_rfl)
theorem en_law10_awake : Ent Tryd.prog 23 := Ent.mk Tryd.func23 rfl (by kernel_rfl)
theorem en_law10_branch : Ent Tryd.prog 50 := Ent.mk Tryd.func50 rfl (by kernel_rfl)
theorem en_law10_jump : Ent Tryd.prog 51 := Ent.mk Tryd.func51 rfl (by kernel_rfl)
theorem en_law10_place : Ent Tryd.prog 29 := Ent.mk Tryd.func29 rfl (by kernel_rfl)
theorem en_law10_trap : Ent Tryd.prog 52 := Ent.mk Tryd.func52 rfl (by kernel_rfl)
theorem en_law11_DomTree : Ent Tryd.prog 7 := Ent.mk Tryd.func7 rfl (by kernel_rfl)
theorem en_law11_awake : Ent Tryd.prog 33 := Ent.mk Tryd.func33 rfl (by kernel_rfl)
theorem en_law11_branch : Ent Tryd.prog 62 := Ent.mk Tryd.func62 rfl (by kernel_rfl)
theorem en_law11_has : Ent Tryd.prog 35 := Ent.mk Tryd.func35 rfl (by kernel_rfl)
theorem en_law11_jump : Ent Tryd.prog 63 := Ent.mk Tryd.func63 rfl (by kernel_rfl)
theorem en_law15_BitsLaws : Ent Tryd.prog 4 := Ent.mk Tryd.func4 rfl (by kernel_rfl)
theorem en_law15_BitsTurn : Ent Tryd.prog 3 := Ent.mk Tryd.func3 rfl (by kernel_rfl)
theorem en_law15_awake : Ent Tryd.prog 10 := Ent.mk Tryd.func10 rfl (by kernel_rfl)
theorem en_law15_has : Ent Tryd.prog 17 := Ent.mk Tryd.func17 rfl (by kernel_rfl)
theorem en_law16_LiveAhead : Ent Tryd.prog 8 := Ent.mk Tryd.func8 rfl (by kernel_rfl)
theorem en_law16_LiveLeast : Ent Tryd.prog 9 := Ent.mk Tryd.func9 rfl (by kernel_rfl)
theorem en_law16_add : Ent Tryd.prog 67 := Ent.mk Tryd.func67 rfl (by kernel_rfl)
theorem en_law16_awake : Ent Tryd.prog 37 := Ent.mk Tryd.func37 rfl (by kernel_rfl)
theorem en_law16_has : Ent Tryd.prog 40 := Ent.mk Tryd.func40 rfl (by kernel_rfl)
theorem en_law16_local : Ent Tryd.prog 41 := Ent.mk Tryd.func41 rfl (by kernel_rfl)
theorem en_ir_Defines : Ent Tryd.prog 44 := Ent.mk Tryd.func44 rfl (by kernel_rfl)
theorem en_ir_IsIns : Ent Tryd.prog 76 := Ent.mk Tryd.func76 rfl (by kernel_rfl)
theorem en_ir_IsIns_1 : Ent Tryd.prog 99 := Ent.mk Tryd.func99 rfl (by kernel_rfl)
theorem en_ir_IsTerm : Ent Tryd.prog 74 := Ent.mk Tryd.func74 rfl (by kernel_rfl)
theorem en_ir_Needs : Ent Tryd.prog 43 := Ent.mk Tryd.func43 rfl (by kernel_rfl)
theorem en_ir_Reads : Ent Tryd.prog 45 := Ent.mk Tryd.func45 rfl (by kernel_rfl)
theorem en_ir_Right : Ent Tryd.prog 39 := Ent.mk Tryd.func39 rfl (by kernel_rfl)
theorem en_ir_To : Ent Tryd.prog 42 := Ent.mk Tryd.func42 rfl (by kernel_rfl)
theorem en_ir_fits : Ent Tryd.prog 97 := Ent.mk Tryd.func97 rfl (by kernel_rfl)
theorem en_ir_full : Ent Tryd.prog 93 := Ent.mk Tryd.func93 rfl (by kernel_rfl)
theorem en_ir_long : Ent Tryd.prog 70 := Ent.mk Tryd.func70 rfl (by kernel_rfl)
theorem en_ir_long_1 : Ent Tryd.prog 89 := Ent.mk Tryd.func89 rfl (by kernel_rfl)
theorem en_ir_none : Ent Tryd.prog 96 := Ent.mk Tryd.func96 rfl (by kernel_rfl)
theorem en_ir_none_1 : Ent Tryd.prog 108 := Ent.mk Tryd.func108 rfl (by kernel_rfl)
theorem en_ir_reach : Ent Tryd.prog 72 := Ent.mk Tryd.func72 rfl (by kernel_rfl)
theorem en_ir_shaped : Ent Tryd.prog 98 := Ent.mk Tryd.func98 rfl (by kernel_rfl)
theorem en_ir_valued : Ent Tryd.prog 73 := Ent.mk Tryd.func73 rfl (by kernel_rfl)
theorem en_ir_variable : Ent Tryd.prog 90 := Ent.mk Tryd.func90 rfl (by kernel_rfl)
theorem en_ir_whole : Ent Tryd.prog 71 := Ent.mk Tryd.func71 rfl (by kernel_rfl)
theorem en_ir_whole_1 : Ent Tryd.prog 92 := Ent.mk Tryd.func92 rfl (by kernel_rfl)
theorem en_live_Most : Ent Tryd.prog 46 := Ent.mk Tryd.func46 rfl (by kernel_rfl)
theorem en_live_Of : Ent Tryd.prog 38 := Ent.mk Tryd.func38 rfl (by kernel_rfl)
theorem en_live_On : Ent Tryd.prog 47 := Ent.mk Tryd.func47 rfl (by kernel_rfl)
theorem en_live_ahead : Ent Tryd.prog 87 := Ent.mk Tryd.func87 rfl (by kernel_rfl)
theorem en_live_points : Ent Tryd.prog 69 := Ent.mk Tryd.func69 rfl (by kernel_rfl)
theorem en_live_points_1 : Ent Tryd.prog 85 := Ent.mk Tryd.func85 rfl (by kernel_rfl)
theorem en_live_solved : Ent Tryd.prog 68 := Ent.mk Tryd.func68 rfl (by kernel_rfl)
theorem en_math_bits_Mul : Ent Tryd.prog 101 := Ent.mk Tryd.func101 rfl (by kernel_rfl)
theorem en_math_bits_Mul32 : Ent Tryd.prog 110 := Ent.mk Tryd.func110 rfl (by kernel_rfl)
theorem en_math_bits_Mul64 : Ent Tryd.prog 111 := Ent.mk Tryd.func111 rfl (by kernel_rfl)
theorem en_math_bits_OnesCount64 : Ent Tryd.prog 49 := Ent.mk Tryd.func49 rfl (by kernel_rfl)
theorem en_math_bits_TrailingZeros64 : Ent Tryd.prog 78 := Ent.mk Tryd.func78 rfl (by kernel_rfl)
theorem en_slices_Backward_L_api_Block_api_Block : Ent Tryd.prog 84 := Ent.mk Tryd.func84 rfl (by kernel_rfl)
theorem en_slices_Backward_L_api_Block_api_Block_1 : Ent Tryd.prog 103 := Ent.mk Tryd.func103 rfl (by kernel_rfl)
theorem en_slices_Backward_L_api_Ins_api_Ins : Ent Tryd.prog 86 := Ent.mk Tryd.func86 rfl (by kernel_rfl)
theorem en_slices_Backward_L_api_Ins_api_Ins_1 : Ent Tryd.prog 104 := Ent.mk Tryd.func104 rfl (by kernel_rfl)
theorem en_slices_Clone_L_int_int : Ent Tryd.prog 75 := Ent.mk Tryd.func75 rfl (by kernel_rfl)
theorem en_slices_ContainsFunc_L_int_int : Ent Tryd.prog 100 := Ent.mk Tryd.func100 rfl (by kernel_rfl)
theorem en_slices_ContainsFunc_L_api_Block_api_Block : Ent Tryd.prog 88 := Ent.mk Tryd.func88 rfl (by kernel_rfl)
theorem en_slices_ContainsFunc_L_api_Ins_api_Ins : Ent Tryd.prog 91 := Ent.mk Tryd.func91 rfl (by kernel_rfl)
theorem en_slices_IndexFunc_L_int_int : Ent Tryd.prog 109 := Ent.mk Tryd.func109 rfl (by kernel_rfl)
theorem en_slices_IndexFunc_L_api_Block_api_Block : Ent Tryd.prog 105 := Ent.mk Tryd.func105 rfl (by kernel_rfl)
theorem en_slices_IndexFunc_L_api_Ins_api_Ins : Ent Tryd.prog 106 := Ent.mk Tryd.func106 rfl (by kernel_rfl)
theorem en_slices_Repeat_L_int_int : Ent Tryd.prog 82 := Ent.mk Tryd.func82 rfl (by kernel_rfl)
theorem mixed : Tryd.prog.follows .mixedOrders = true := by kernel_rfl
end Go.Proofs.YtbcnejobnmljlaaDoor
