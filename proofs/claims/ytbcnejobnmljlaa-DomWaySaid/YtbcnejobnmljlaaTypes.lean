/- Facts on types, and that functions are entered; by gen.py. -/
import Derived.Test.YtbcnejobnmljlaaMap
import Derived.Test.YtbcnejobnmljlaaProg
import Derived.KernelRfl
namespace Go.Proofs.Ytbcnejobnmljlaa
set_option linter.unusedVariables false
open Go
set_option maxRecDepth 100000
theorem sz_L_L_int : (Try.prog.info? 66).map (·.size) = some 1 := by kernel_rfl
theorem zr_L_L_int : ZrT Try.prog 66 (.slice none 0 0) := .mk (by kernel_rfl)
theorem one_L_L_int : OneT Try.prog 66 := .mk (by kernel_rfl)
theorem sl_L_L_int : SlT Try.prog 66 22 1 24 := ⟨by kernel_rfl, by kernel_rfl⟩
theorem sz_L_api_Block : (Try.prog.info? 23).map (·.size) = some 1 := by kernel_rfl
theorem zr_L_api_Block : ZrT Try.prog 23 (.slice none 0 0) := .mk (by kernel_rfl)
theorem one_L_api_Block : OneT Try.prog 23 := .mk (by kernel_rfl)
theorem sl_L_api_Block : SlT Try.prog 23 44 5 56 := ⟨by kernel_rfl, by kernel_rfl⟩
theorem sz_L_api_Edge : (Try.prog.info? 29).map (·.size) = some 1 := by kernel_rfl
theorem zr_L_api_Edge : ZrT Try.prog 29 (.slice none 0 0) := .mk (by kernel_rfl)
theorem one_L_api_Edge : OneT Try.prog 29 := .mk (by kernel_rfl)
theorem sl_L_api_Edge : SlT Try.prog 29 32 3 24 := ⟨by kernel_rfl, by kernel_rfl⟩
theorem sz_L_api_Ins : (Try.prog.info? 38).map (·.size) = some 1 := by kernel_rfl
theorem zr_L_api_Ins : ZrT Try.prog 38 (.slice none 0 0) := .mk (by kernel_rfl)
theorem one_L_api_Ins : OneT Try.prog 38 := .mk (by kernel_rfl)
theorem sl_L_api_Ins : SlT Try.prog 38 63 8 80 := ⟨by kernel_rfl, by kernel_rfl⟩
theorem sz_L_int : (Try.prog.info? 22).map (·.size) = some 1 := by kernel_rfl
theorem zr_L_int : ZrT Try.prog 22 (.slice none 0 0) := .mk (by kernel_rfl)
theorem one_L_int : OneT Try.prog 22 := .mk (by kernel_rfl)
theorem sl_L_int : SlT Try.prog 22 3 1 8 := ⟨by kernel_rfl, by kernel_rfl⟩
theorem sz_api_Op : (Try.prog.info? 61).map (·.size) = some 1 := by kernel_rfl
theorem zr_api_Op : ZrT Try.prog 61 (.int .i64 0) := .mk (by kernel_rfl)
theorem one_api_Op : OneT Try.prog 61 := .mk (by kernel_rfl)
theorem in_api_Op : InT Try.prog 61 .i64 := .mk (by kernel_rfl)
theorem pr_api_Op : primT Try.prog 61 (.int .i64) := ⟨in_api_Op, rfl, sz_api_Op⟩
theorem sz_api_TermKind : (Try.prog.info? 39).map (·.size) = some 1 := by kernel_rfl
theorem zr_api_TermKind : ZrT Try.prog 39 (.int .i64 0) := .mk (by kernel_rfl)
theorem one_api_TermKind : OneT Try.prog 39 := .mk (by kernel_rfl)
theorem in_api_TermKind : InT Try.prog 39 .i64 := .mk (by kernel_rfl)
theorem pr_api_TermKind : primT Try.prog 39 (.int .i64) := ⟨in_api_TermKind, rfl, sz_api_TermKind⟩
theorem sz_bool : (Try.prog.info? 4).map (·.size) = some 1 := by kernel_rfl
theorem zr_bool : ZrT Try.prog 4 (.bool false) := .mk (by kernel_rfl)
theorem one_bool : OneT Try.prog 4 := .mk (by kernel_rfl)
theorem bo_bool : Try.prog.underlying 4 = some .bool := by kernel_rfl
theorem pr_bool : primT Try.prog 4 .bool := ⟨bo_bool, rfl, sz_bool⟩
theorem sz_func_api_Edge_bool : (Try.prog.info? 55).map (·.size) = some 1 := by kernel_rfl
theorem zr_func_api_Edge_bool : ZrT Try.prog 55 .nilFunc := .mk (by kernel_rfl)
theorem one_func_api_Edge_bool : OneT Try.prog 55 := .mk (by kernel_rfl)
theorem sz_func_func_api_Edge_bool : (Try.prog.info? 50).map (·.size) = some 1 := by kernel_rfl
theorem zr_func_func_api_Edge_bool : ZrT Try.prog 50 .nilFunc := .mk (by kernel_rfl)
theorem one_func_func_api_Edge_bool : OneT Try.prog 50 := .mk (by kernel_rfl)
theorem sz_func_func_int_bool : (Try.prog.info? 68).map (·.size) = some 1 := by kernel_rfl
theorem zr_func_func_int_bool : ZrT Try.prog 68 .nilFunc := .mk (by kernel_rfl)
theorem one_func_func_int_bool : OneT Try.prog 68 := .mk (by kernel_rfl)
theorem sz_func_int : (Try.prog.info? 76).map (·.size) = some 1 := by kernel_rfl
theorem zr_func_int : ZrT Try.prog 76 .nilFunc := .mk (by kernel_rfl)
theorem one_func_int : OneT Try.prog 76 := .mk (by kernel_rfl)
theorem sz_func_int_bool : (Try.prog.info? 60).map (·.size) = some 1 := by kernel_rfl
theorem zr_func_int_bool : ZrT Try.prog 60 .nilFunc := .mk (by kernel_rfl)
theorem one_func_int_bool : OneT Try.prog 60 := .mk (by kernel_rfl)
theorem sz_int : (Try.prog.info? 3).map (·.size) = some 1 := by kernel_rfl
theorem zr_int : ZrT Try.prog 3 (.int .i64 0) := .mk (by kernel_rfl)
theorem one_int : OneT Try.prog 3 := .mk (by kernel_rfl)
theorem in_int : InT Try.prog 3 .i64 := .mk (by kernel_rfl)
theorem pr_int : primT Try.prog 3 (.int .i64) := ⟨in_int, rfl, sz_int⟩
theorem sz_int64 : (Try.prog.info? 2).map (·.size) = some 1 := by kernel_rfl
theorem zr_int64 : ZrT Try.prog 2 (.int .i64 0) := .mk (by kernel_rfl)
theorem one_int64 : OneT Try.prog 2 := .mk (by kernel_rfl)
theorem in_int64 : InT Try.prog 2 .i64 := .mk (by kernel_rfl)
theorem pr_int64 : primT Try.prog 2 (.int .i64) := ⟨in_int64, rfl, sz_int64⟩
theorem sz_interface : (Try.prog.info? 20).map (·.size) = some 1 := by kernel_rfl
theorem zr_interface : ZrT Try.prog 20 .nilIface := .mk (by kernel_rfl)
theorem one_interface : OneT Try.prog 20 := .mk (by kernel_rfl)
theorem sz_iter_Seq_api_Edge : (Try.prog.info? 51).map (·.size) = some 1 := by kernel_rfl
theorem zr_iter_Seq_api_Edge : ZrT Try.prog 51 .nilFunc := .mk (by kernel_rfl)
theorem one_iter_Seq_api_Edge : OneT Try.prog 51 := .mk (by kernel_rfl)
theorem sz_iter_Seq_int : (Try.prog.info? 69).map (·.size) = some 1 := by kernel_rfl
theorem zr_iter_Seq_int : ZrT Try.prog 69 .nilFunc := .mk (by kernel_rfl)
theorem one_iter_Seq_int : OneT Try.prog 69 := .mk (by kernel_rfl)
theorem sz_string : (Try.prog.info? 9).map (·.size) = some 1 := by kernel_rfl
theorem zr_string : ZrT Try.prog 9 (.string ByteArray.empty) := .mk (by kernel_rfl)
theorem one_string : OneT Try.prog 9 := .mk (by kernel_rfl)
theorem sz_uint : (Try.prog.info? 53).map (·.size) = some 1 := by kernel_rfl
theorem zr_uint : ZrT Try.prog 53 (.int .u64 0) := .mk (by kernel_rfl)
theorem one_uint : OneT Try.prog 53 := .mk (by kernel_rfl)
theorem in_uint : InT Try.prog 53 .u64 := .mk (by kernel_rfl)
theorem pr_uint : primT Try.prog 53 (.int .u64) := ⟨in_uint, rfl, sz_uint⟩
theorem sz_uint32 : (Try.prog.info? 82).map (·.size) = some 1 := by kernel_rfl
theorem zr_uint32 : ZrT Try.prog 82 (.int .u32 0) := .mk (by kernel_rfl)
theorem one_uint32 : OneT Try.prog 82 := .mk (by kernel_rfl)
theorem in_uint32 : InT Try.prog 82 .u32 := .mk (by kernel_rfl)
theorem pr_uint32 : primT Try.prog 82 (.int .u32) := ⟨in_uint32, rfl, sz_uint32⟩
theorem sz_uint64 : (Try.prog.info? 73).map (·.size) = some 1 := by kernel_rfl
theorem zr_uint64 : ZrT Try.prog 73 (.int .u64 0) := .mk (by kernel_rfl)
theorem one_uint64 : OneT Try.prog 73 := .mk (by kernel_rfl)
theorem in_uint64 : InT Try.prog 73 .u64 := .mk (by kernel_rfl)
theorem pr_uint64 : primT Try.prog 73 (.int .u64) := ⟨in_uint64, rfl, sz_uint64⟩
theorem sz_uint8 : (Try.prog.info? 5).map (·.size) = some 1 := by kernel_rfl
theorem zr_uint8 : ZrT Try.prog 5 (.int .u8 0) := .mk (by kernel_rfl)
theorem one_uint8 : OneT Try.prog 5 := .mk (by kernel_rfl)
theorem in_uint8 : InT Try.prog 5 .u8 := .mk (by kernel_rfl)
theorem pr_uint8 : primT Try.prog 5 (.int .u8) := ⟨in_uint8, rfl, sz_uint8⟩
theorem sz_A2_int : (Try.prog.info? 40).map (·.size) = some 2 := by kernel_rfl
theorem zr_A2_int : ZrT Try.prog 40 (.agg #[(.int .i64 0), (.int .i64 0)]) := .mk (by kernel_rfl)
theorem ag_A2_int : AggT Try.prog 40 2 := .mk (by kernel_rfl) (by kernel_rfl)
theorem ar_A2_int : ArT Try.prog 40 2 3 1 := ⟨by kernel_rfl, by kernel_rfl⟩
theorem cm_A2_int : CmA Try.prog 40 2 (.int .i64) := ⟨_, ar_A2_int.1, pr_int, by kernel_rfl⟩
theorem sz_api_Block : (Try.prog.info? 44).map (·.size) = some 5 := by kernel_rfl
theorem zr_api_Block : ZrT Try.prog 44 (.agg #[(.slice none 0 0), (.int .i64 0), (.int .i64 0), (.int .i64 0), (.int .i64 0)]) := .mk (by kernel_rfl)
theorem ag_api_Block : AggT Try.prog 44 5 := .mk (by kernel_rfl) (by kernel_rfl)
theorem bs_api_Block : stB Try.prog 44 = some [(0, 1), (1, 4)] := by kernel_rfl
theorem fd_api_Block_0 : FdT Try.prog 44 0 0 := ⟨0, by kernel_rfl⟩
theorem fv_api_Block_0 : fieldV Try.prog 44 0 = some (0, 38) := by kernel_rfl
theorem fd_api_Block_1 : FdT Try.prog 44 1 1 := ⟨3, by kernel_rfl⟩
theorem fv_api_Block_1 : fieldV Try.prog 44 1 = some (1, 42) := by kernel_rfl
theorem sz_api_Edge : (Try.prog.info? 32).map (·.size) = some 3 := by kernel_rfl
theorem zr_api_Edge : ZrT Try.prog 32 (.agg #[(.int .i64 0), (.int .i64 0), (.int .i64 0)]) := .mk (by kernel_rfl)
theorem ag_api_Edge : AggT Try.prog 32 3 := .mk (by kernel_rfl) (by kernel_rfl)
theorem bs_api_Edge : stB Try.prog 32 = some [(0, 1), (1, 1), (2, 1)] := by kernel_rfl
theorem fd_api_Edge_0 : FdT Try.prog 32 0 0 := ⟨0, by kernel_rfl⟩
theorem fv_api_Edge_0 : fieldV Try.prog 32 0 = some (0, 3) := by kernel_rfl
theorem fd_api_Edge_1 : FdT Try.prog 32 1 1 := ⟨0, by kernel_rfl⟩
theorem fv_api_Edge_1 : fieldV Try.prog 32 1 = some (1, 3) := by kernel_rfl
theorem fd_api_Edge_2 : FdT Try.prog 32 2 2 := ⟨0, by kernel_rfl⟩
theorem fv_api_Edge_2 : fieldV Try.prog 32 2 = some (2, 3) := by kernel_rfl
theorem sz_api_Func : (Try.prog.info? 25).map (·.size) = some 2 := by kernel_rfl
theorem zr_api_Func : ZrT Try.prog 25 (.agg #[(.slice none 0 0), (.slice none 0 0)]) := .mk (by kernel_rfl)
theorem ag_api_Func : AggT Try.prog 25 2 := .mk (by kernel_rfl) (by kernel_rfl)
theorem bs_api_Func : stB Try.prog 25 = some [(0, 1), (1, 1)] := by kernel_rfl
theorem fd_api_Func_0 : FdT Try.prog 25 0 0 := ⟨0, by kernel_rfl⟩
theorem fv_api_Func_0 : fieldV Try.prog 25 0 = some (0, 22) := by kernel_rfl
theorem fd_api_Func_1 : FdT Try.prog 25 1 1 := ⟨0, by kernel_rfl⟩
theorem fv_api_Func_1 : fieldV Try.prog 25 1 = some (1, 23) := by kernel_rfl
theorem sz_api_Ins : (Try.prog.info? 63).map (·.size) = some 8 := by kernel_rfl
theorem zr_api_Ins : ZrT Try.prog 63 (.agg #[(.int .i64 0), (.int .i64 0), (.int .i64 0), (.int .i64 0), (.int .i64 0), (.int .i64 0), (.slice none 0 0), (.int .i64 0)]) := .mk (by kernel_rfl)
theorem ag_api_Ins : AggT Try.prog 63 8 := .mk (by kernel_rfl) (by kernel_rfl)
theorem bs_api_Ins : stB Try.prog 63 = some [(0, 1), (1, 1), (2, 1), (3, 1), (4, 1), (5, 1), (6, 1), (7, 1)] := by kernel_rfl
theorem fd_api_Ins_0 : FdT Try.prog 63 0 0 := ⟨0, by kernel_rfl⟩
theorem fv_api_Ins_0 : fieldV Try.prog 63 0 = some (0, 61) := by kernel_rfl
theorem fd_api_Ins_1 : FdT Try.prog 63 1 1 := ⟨0, by kernel_rfl⟩
theorem fv_api_Ins_1 : fieldV Try.prog 63 1 = some (1, 3) := by kernel_rfl
theorem fd_api_Ins_2 : FdT Try.prog 63 2 2 := ⟨0, by kernel_rfl⟩
theorem fv_api_Ins_2 : fieldV Try.prog 63 2 = some (2, 3) := by kernel_rfl
theorem fd_api_Ins_3 : FdT Try.prog 63 3 3 := ⟨0, by kernel_rfl⟩
theorem fv_api_Ins_3 : fieldV Try.prog 63 3 = some (3, 3) := by kernel_rfl
theorem fd_api_Ins_4 : FdT Try.prog 63 4 4 := ⟨0, by kernel_rfl⟩
theorem fv_api_Ins_4 : fieldV Try.prog 63 4 = some (4, 3) := by kernel_rfl
theorem fd_api_Ins_5 : FdT Try.prog 63 5 5 := ⟨0, by kernel_rfl⟩
theorem fv_api_Ins_5 : fieldV Try.prog 63 5 = some (5, 3) := by kernel_rfl
theorem fd_api_Ins_6 : FdT Try.prog 63 6 6 := ⟨0, by kernel_rfl⟩
theorem fv_api_Ins_6 : fieldV Try.prog 63 6 = some (6, 22) := by kernel_rfl
theorem fd_api_Ins_7 : FdT Try.prog 63 7 7 := ⟨0, by kernel_rfl⟩
theorem fv_api_Ins_7 : fieldV Try.prog 63 7 = some (7, 3) := by kernel_rfl
theorem sz_api_Term : (Try.prog.info? 42).map (·.size) = some 4 := by kernel_rfl
theorem zr_api_Term : ZrT Try.prog 42 (.agg #[(.int .i64 0), (.int .i64 0), (.int .i64 0), (.int .i64 0)]) := .mk (by kernel_rfl)
theorem ag_api_Term : AggT Try.prog 42 4 := .mk (by kernel_rfl) (by kernel_rfl)
theorem bs_api_Term : stB Try.prog 42 = some [(0, 1), (1, 1), (2, 2)] := by kernel_rfl
theorem fd_api_Term_0 : FdT Try.prog 42 0 0 := ⟨0, by kernel_rfl⟩
theorem fv_api_Term_0 : fieldV Try.prog 42 0 = some (0, 39) := by kernel_rfl
theorem fd_api_Term_1 : FdT Try.prog 42 1 1 := ⟨0, by kernel_rfl⟩
theorem fv_api_Term_1 : fieldV Try.prog 42 1 = some (1, 3) := by kernel_rfl
theorem fd_api_Term_2 : FdT Try.prog 42 2 2 := ⟨1, by kernel_rfl⟩
theorem fv_api_Term_2 : fieldV Try.prog 42 2 = some (2, 40) := by kernel_rfl
theorem sz_bits_Set : (Try.prog.info? 75).map (·.size) = some 16 := by kernel_rfl
theorem zr_bits_Set : ZrT Try.prog 75 (.agg #[(.int .u64 0), (.int .u64 0), (.int .u64 0), (.int .u64 0), (.int .u64 0), (.int .u64 0), (.int .u64 0), (.int .u64 0), (.int .u64 0), (.int .u64 0), (.int .u64 0), (.int .u64 0), (.int .u64 0), (.int .u64 0), (.int .u64 0), (.int .u64 0)]) := .mk (by kernel_rfl)
theorem ag_bits_Set : AggT Try.prog 75 16 := .mk (by kernel_rfl) (by kernel_rfl)
theorem ar_bits_Set : ArT Try.prog 75 16 73 1 := ⟨by kernel_rfl, by kernel_rfl⟩
theorem cm_bits_Set : CmA Try.prog 75 16 (.int .u64) := ⟨_, ar_bits_Set.1, pr_uint64, by kernel_rfl⟩
theorem sz_dom_tree : (Try.prog.info? 57).map (·.size) = some 2 := by kernel_rfl
theorem zr_dom_tree : ZrT Try.prog 57 (.agg #[(.slice none 0 0), (.slice none 0 0)]) := .mk (by kernel_rfl)
theorem ag_dom_tree : AggT Try.prog 57 2 := .mk (by kernel_rfl) (by kernel_rfl)
theorem bs_dom_tree : stB Try.prog 57 = some [(0, 1), (1, 1)] := by kernel_rfl
theorem fd_dom_tree_0 : FdT Try.prog 57 0 0 := ⟨0, by kernel_rfl⟩
theorem fv_dom_tree_0 : fieldV Try.prog 57 0 = some (0, 22) := by kernel_rfl
theorem fd_dom_tree_1 : FdT Try.prog 57 1 1 := ⟨0, by kernel_rfl⟩
theorem fv_dom_tree_1 : fieldV Try.prog 57 1 = some (1, 22) := by kernel_rfl
theorem en_bits_Set_Has : Ent Try.prog 33 := Ent.mk Try.func33 rfl (by kernel_rfl)
theorem en_bits_Set_With : Ent Try.prog 34 := Ent.mk Try.func34 rfl (by kernel_rfl)
theorem en_dom_tree_chain : Ent Try.prog 29 := Ent.mk Try.func29 rfl (by kernel_rfl)
theorem en_dom_tree_chain_1 : Ent Try.prog 37 := Ent.mk Try.func37 rfl (by kernel_rfl)
theorem en_dom_tree_meet : Ent Try.prog 23 := Ent.mk Try.func23 rfl (by kernel_rfl)
theorem en_dom_tree_over : Ent Try.prog 21 := Ent.mk Try.func21 rfl (by kernel_rfl)
theorem en_dom_tree_reached : Ent Try.prog 22 := Ent.mk Try.func22 rfl (by kernel_rfl)
theorem en_dom_Both : Ent Try.prog 11 := Ent.mk Try.func11 rfl (by kernel_rfl)
theorem en_dom_Of : Ent Try.prog 15 := Ent.mk Try.func15 rfl (by kernel_rfl)
theorem en_dom_Over : Ent Try.prog 9 := Ent.mk Try.func9 rfl (by kernel_rfl)
theorem en_dom_made : Ent Try.prog 20 := Ent.mk Try.func20 rfl (by kernel_rfl)
theorem en_flow_Closed : Ent Try.prog 6 := Ent.mk Try.func6 rfl (by kernel_rfl)
theorem en_flow_Edges : Ent Try.prog 28 := Ent.mk Try.func28 rfl (by kernel_rfl)
theorem en_flow_Edges_1 : Ent Try.prog 36 := Ent.mk Try.func36 rfl (by kernel_rfl)
theorem en_flow_From : Ent Try.prog 7 := Ent.mk Try.func7 rfl (by kernel_rfl)
theorem en_flow_From_1 : Ent Try.prog 19 := Ent.mk Try.func19 rfl (by kernel_rfl)
theorem en_flow_Order : Ent Try.prog 26 := Ent.mk Try.func26 rfl (by kernel_rfl)
theorem en_flow_Order_1 : Ent Try.prog 32 := Ent.mk Try.func32 rfl (by kernel_rfl)
theorem en_flow_each : Ent Try.prog 17 := Ent.mk Try.func17 rfl (by kernel_rfl)
theorem en_flow_each_1 : Ent Try.prog 24 := Ent.mk Try.func24 rfl (by kernel_rfl)
theorem en_flow_some : Ent Try.prog 18 := Ent.mk Try.func18 rfl (by kernel_rfl)
theorem en_kit_BlocksOf : Ent Try.prog 16 := Ent.mk Try.func16 rfl (by kernel_rfl)
theorem en_kit_FuncOf : Ent Try.prog 5 := Ent.mk Try.func5 rfl (by kernel_rfl)
theorem en_kit_Pick : Ent Try.prog 8 := Ent.mk Try.func8 rfl (by kernel_rfl)
theorem en_kit_SameInts : Ent Try.prog 14 := Ent.mk Try.func14 rfl (by kernel_rfl)
theorem en_law11_DomWay : Ent Try.prog 3 := Ent.mk Try.func3 rfl (by kernel_rfl)
theorem en_law11_awake : Ent Try.prog 4 := Ent.mk Try.func4 rfl (by kernel_rfl)
theorem en_law11_branch : Ent Try.prog 12 := Ent.mk Try.func12 rfl (by kernel_rfl)
theorem en_law11_has : Ent Try.prog 10 := Ent.mk Try.func10 rfl (by kernel_rfl)
theorem en_law11_jump : Ent Try.prog 13 := Ent.mk Try.func13 rfl (by kernel_rfl)
theorem en_ir_IsTerm : Ent Try.prog 30 := Ent.mk Try.func30 rfl (by kernel_rfl)
theorem en_ir_To : Ent Try.prog 25 := Ent.mk Try.func25 rfl (by kernel_rfl)
theorem en_ir_fits : Ent Try.prog 40 := Ent.mk Try.func40 rfl (by kernel_rfl)
theorem en_ir_none : Ent Try.prog 38 := Ent.mk Try.func38 rfl (by kernel_rfl)
theorem en_ir_none_1 : Ent Try.prog 44 := Ent.mk Try.func44 rfl (by kernel_rfl)
theorem en_ir_variable : Ent Try.prog 39 := Ent.mk Try.func39 rfl (by kernel_rfl)
theorem en_math_bits_Mul : Ent Try.prog 35 := Ent.mk Try.func35 rfl (by kernel_rfl)
theorem en_math_bits_Mul32 : Ent Try.prog 41 := Ent.mk Try.func41 rfl (by kernel_rfl)
theorem en_math_bits_Mul64 : Ent Try.prog 42 := Ent.mk Try.func42 rfl (by kernel_rfl)
theorem en_slices_Clone_L_int_int : Ent Try.prog 31 := Ent.mk Try.func31 rfl (by kernel_rfl)
theorem en_slices_ContainsFunc_L_int_int : Ent Try.prog 43 := Ent.mk Try.func43 rfl (by kernel_rfl)
theorem en_slices_IndexFunc_L_int_int : Ent Try.prog 45 := Ent.mk Try.func45 rfl (by kernel_rfl)
theorem en_slices_Repeat_L_int_int : Ent Try.prog 27 := Ent.mk Try.func27 rfl (by kernel_rfl)
theorem mixed : Try.prog.follows .mixedOrders = true := by kernel_rfl
end Go.Proofs.Ytbcnejobnmljlaa
