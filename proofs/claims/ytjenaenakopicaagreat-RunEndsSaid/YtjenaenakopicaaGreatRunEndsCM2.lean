/- Part 2 of the proof of RunEndsC: the texts Ins, IrS, Reach, Dfs, FlowLaw, IrL, DrawT, NRows, IrV, Flow, IrW, IrX, Que, IrR, IrU, IrT, Perm, RunC, Bare, one behind the other. -/
import Derived.ArgAppend
import Derived.Laws.Pointers
import Derived.Laws.Build
import Derived.Test.YtjenaenakopicaaGreatRunEndsCM1
/- The package ir: instructions, what they read and define; ends, what they need: walked. -/
namespace Go.Proofs.YtjenaenakopicaaGreat
set_option linter.unusedVariables false
open Go Go.RowKit
set_option maxRecDepth 100000

theorem uint_le99 {n : Int} (h : -9223372036854775808 ≤ n ∧ n ≤ 9223372036854775807) : decide (IntKind.u64.wrap n ≤ 99) = (decide (0 ≤ n) && decide (n ≤ 99)) := by
  rw [Bool.eq_iff_iff, Bool.and_eq_true, decide_eq_true_iff, decide_eq_true_iff, decide_eq_true_iff]
  have : IntKind.u64.wrap n = n % 18446744073709551616 := rfl
  rw [this]
  constructor
  · intro h1; omega
  · intro h1; omega
/-- An instruction that can be read. -/
structure InsAt (w : World) (i : RIns) : Prop where
  args : Reads w w.heap.size 1 i.aA i.args.length (ints i.args)
  len : i.args.length < 2 ^ 50
  callee : -9223372036854775808 ≤ i.callee ∧ i.callee ≤ 9223372036854775807
theorem InsAt.now {w0 w : World} {L : List Res} {i : RIns} (h : InsAt w0 i) (hh : Hp w0 w0.heap.size L w) : InsAt w i := ⟨h.args.now hh, h.len, h.callee⟩
theorem not_any_var (l : List Int) : (!l.any fun v => !varB v) = l.all varB := by
  rw [List.not_any_eq_all_not]
  congr 1
  funext v
  simp
theorem shp_one (s : Shp) : ∀ u ∈ s.cells, u.oneCell' = true := by
  intro u hu
  unfold Shp.cells at hu
  simp only [List.mem_cons, List.not_mem_nil, or_false] at hu
  rcases hu with rfl | rfl | rfl | rfl | rfl <;> rfl
section
theorem ir_shaped_ct {w : World} {o : Int} : Ct Tryz.prog 70 #[.int .i64 o] w (Is (.tuple #[(shp o).1.val, .bool (shp o).2])) := by
  refine Ct.mk Tryz.func70 rfl rfl ?_
  refine Cd.seq ?_
  refine Cd.region ?_
  refine Ol.x (alc zr_ir_shape) ?_
  rintro _ _ ⟨g2, rfl, rfl⟩
  refine Ol.p asb ?_
  refine Ol.nil ?_
  refine Cd.seq ?_
  refine Cd.seq ?_
  refine Cd.region ?_
  refine Ol.p mvi ?_
  refine Ol.nil ?_
  refine Cd.block ?_   -- 0
  refine Cd.mid (fun σ' L' => ((o = 11 ∧ L' = [blk g2 (.cells #[.bool false, .bool false, .bool false, .bool true, .bool false] 110)]) ∨ (o = 14 ∧ L' = [blk g2 (.cells #[.bool false, .bool false, .bool false, .bool false, .bool false] 110)])) ∧ Has σ' [(2, .pointer (some ⟨g2, 0, none⟩))] ∧ o ≠ 13 ∧ o ≠ 1 ∧ o ≠ 12) ?_ ?_
  · refine Cd.block ?_   -- 5
    refine Cd.seq ?_
    refine Cd.block ?_   -- 4
    refine Cd.seq ?_
    refine Cd.block ?_   -- 3
    refine Cd.seq ?_
    refine Cd.block ?_   -- 2
    refine Cd.seq ?_
    refine Cd.block ?_   -- 1
    refine Cd.seq ?_
    refine Cd.seq ?_
    refine Cd.seq ?_
    refine Cd.region ?_
    refine Ol.p eqi ?_
    refine Ol.p asb ?_
    refine Ol.nil ?_
    refine Cd.cond rfl (fun h13 => ?_) (fun h13 => ?_)   -- $5
    · refine Cd.exit (id := 1) ?_
      refine Cd.seq ?_
      refine Cd.seq ?_
      refine Cd.region ?_
      refine Ol.p (bds bs_ir_shape zr_ir_shape) ?_
      refine Ol.s (stw (vs := (Shp.cells ⟨false,false,false,false,true⟩).toArray) sz_ir_shape rfl (shp_one ⟨false,false,false,false,true⟩) (i := 0) rfl rfl) ?_
      refine Ol.p asb ?_
      refine Ol.nil ?_
      refine Cd.ret ⟨.tuple _, retct rfl ag_ir_shape rfl rfl (i := 0) rfl rfl, [], .nil, ?_, rfl⟩
      unfold shp; rw [h13]; rfl
    refine Cd.skip ?_
    refine Cd.seq ?_
    refine Cd.seq ?_
    refine Cd.region ?_
    refine Ol.p eqi ?_
    refine Ol.p asb ?_
    refine Ol.nil ?_
    refine Cd.cond rfl (fun h1 => ?_) (fun h1 => ?_)   -- $7
    · refine Cd.exit (id := 2) ?_
      refine Cd.seq ?_
      refine Cd.seq ?_
      refine Cd.region ?_
      refine Ol.p (bds bs_ir_shape zr_ir_shape) ?_
      refine Ol.s (stw (vs := (Shp.cells ⟨true,false,false,true,false⟩).toArray) sz_ir_shape rfl (shp_one ⟨true,false,false,true,false⟩) (i := 0) rfl rfl) ?_
      refine Ol.p asb ?_
      refine Ol.nil ?_
      refine Cd.ret ⟨.tuple _, retct rfl ag_ir_shape rfl rfl (i := 0) rfl rfl, [], .nil, ?_, rfl⟩
      unfold shp; rw [h13, h1]; rfl
    refine Cd.skip ?_
    refine Cd.seq ?_
    refine Cd.seq ?_
    refine Cd.region ?_
    refine Ol.p eqi ?_
    refine Ol.p asb ?_
    refine Ol.nil ?_
    refine Cd.cond rfl (fun h12 => ?_) (fun h12 => ?_)   -- $9
    · refine Cd.exit (id := 3) ?_
      refine Cd.seq ?_
      refine Cd.seq ?_
      refine Cd.region ?_
      refine Ol.p (bds bs_ir_shape zr_ir_shape) ?_
      refine Ol.s (stw (vs := (Shp.cells ⟨false,true,true,true,false⟩).toArray) sz_ir_shape rfl (shp_one ⟨false,true,true,true,false⟩) (i := 0) rfl rfl) ?_
      refine Ol.p asb ?_
      refine Ol.nil ?_
      refine Cd.ret ⟨.tuple _, retct rfl ag_ir_shape rfl rfl (i := 0) rfl rfl, [], .nil, ?_, rfl⟩
      unfold shp; rw [h13, h1, h12]; rfl
    have n13 : o ≠ 13 := by simpa using h13
    have n1 : o ≠ 1 := by simpa using h1
    have n12 : o ≠ 12 := by simpa using h12
    refine Cd.skip ?_
    refine Cd.seq ?_
    refine Cd.seq ?_
    refine Cd.region ?_
    refine Ol.p eqi ?_
    refine Ol.p asb ?_
    refine Ol.nil ?_
    refine Cd.cond rfl (fun h11 => ?_) (fun h11 => ?_)   -- $11
    · refine Cd.exit (id := 4) ?_
      refine Cd.region ?_
      refine Ol.p (fdl fd_ir_shape_3) ?_
      refine Ol.s (sto (k := 3) (.inr sz_bool) rfl rfl (i := 0) rfl (by exact (by decide : 3 < 5)) rfl) ?_
      refine Ol.nil ?_
      exact ⟨.inl ⟨by simpa using h11, rfl⟩, ⟨rfl, trivial⟩, n13, n1, n12⟩
    refine Cd.skip ?_
    refine Cd.seq ?_
    refine Cd.region ?_
    refine Ol.p eqi ?_
    refine Ol.p asb ?_
    refine Ol.nil ?_
    refine Cd.cond rfl (fun h14 => ?_) (fun h14 => ?_)   -- $13
    · refine Cd.exit (id := 5) ?_
      exact ⟨.inr ⟨by simpa using h14, rfl⟩, ⟨rfl, trivial⟩, n13, n1, n12⟩
    refine Cd.skip ?_
    refine Cd.exit (id := 0) ?_
    refine Cd.seq ?_
    cases h2 : decide (2 ≤ o) with
    | true =>
      refine Cd.region ?_
      refine Ol.p (bds bs_ir_shape zr_ir_shape) ?_
      refine Ol.p mvi ?_
      refine Ol.p gei ?_
      refine Ol.p mvb ?_
      refine Ol.gp h2 mvi ?_
      refine Ol.gp h2 lei ?_
      refine Ol.p (pkTb h2) ?_
      refine Ol.s (stw (vs := (Shp.cells ⟨true,true,true,false,false⟩).toArray) sz_ir_shape rfl (shp_one ⟨true,true,true,false,false⟩) (i := 0) rfl rfl) ?_
      refine Ol.p asb ?_
      refine Ol.nil ?_
      refine Cd.ret ⟨.tuple _, retct rfl ag_ir_shape rfl rfl (i := 0) rfl rfl, [], .nil, ?_, rfl⟩
      unfold shp; rw [h13, h1, h12, h11, h14, h2]; rfl
    | false =>
      refine Cd.region ?_
      refine Ol.p (bds bs_ir_shape zr_ir_shape) ?_
      refine Ol.p mvi ?_
      refine Ol.p gei ?_
      refine Ol.p mvb ?_
      refine Ol.gn h2 ?_
      refine Ol.gn h2 ?_
      refine Ol.p (pkFb h2) ?_
      refine Ol.s (stw (vs := (Shp.cells ⟨true,true,true,false,false⟩).toArray) sz_ir_shape rfl (shp_one ⟨true,true,true,false,false⟩) (i := 0) rfl rfl) ?_
      refine Ol.p asb ?_
      refine Ol.nil ?_
      refine Cd.ret ⟨.tuple _, retct rfl ag_ir_shape rfl rfl (i := 0) rfl rfl, [], .nil, ?_, rfl⟩
      unfold shp; rw [h13, h1, h12, h11, h14, h2]; rfl
  rintro σ' _ ⟨hcs, hs', n13, n1, n12⟩
  rcases hcs with ⟨rfl, rfl⟩ | ⟨rfl, rfl⟩
  · refine Cd.has hs' ?_
    refine Cd.seq ?_
    refine Cd.seq ?_
    refine Cd.region ?_
    refine Ol.p (fdl fd_ir_shape_0) ?_
    refine Ol.s (sto (k := 0) (.inr sz_bool) rfl rfl (i := 0) rfl (by exact (by decide : 0 < 5)) rfl) ?_
    refine Ol.p (fdl fd_ir_shape_1) ?_
    refine Ol.s (sto (k := 1) (.inr sz_bool) rfl rfl (i := 0) rfl (by exact (by decide : 1 < 5)) rfl) ?_
    refine Ol.nil ?_
    refine Cd.seq ?_
    refine Cd.region ?_
    refine Ol.p (ldw ag_ir_shape (i := 0) rfl rfl) ?_
    refine Ol.s (stw (vs := (Shp.cells ⟨true,true,false,true,false⟩).toArray) sz_ir_shape rfl (shp_one ⟨true,true,false,true,false⟩) (i := 0) rfl rfl) ?_
    refine Ol.p asb ?_
    refine Ol.nil ?_
    exact Cd.ret ⟨.tuple _, retct rfl ag_ir_shape rfl rfl (i := 0) rfl rfl, [], .nil, rfl, rfl⟩
  · refine Cd.has hs' ?_
    refine Cd.seq ?_
    refine Cd.seq ?_
    refine Cd.region ?_
    refine Ol.p (fdl fd_ir_shape_0) ?_
    refine Ol.s (sto (k := 0) (.inr sz_bool) rfl rfl (i := 0) rfl (by exact (by decide : 0 < 5)) rfl) ?_
    refine Ol.p (fdl fd_ir_shape_1) ?_
    refine Ol.s (sto (k := 1) (.inr sz_bool) rfl rfl (i := 0) rfl (by exact (by decide : 1 < 5)) rfl) ?_
    refine Ol.nil ?_
    refine Cd.seq ?_
    refine Cd.region ?_
    refine Ol.p (ldw ag_ir_shape (i := 0) rfl rfl) ?_
    refine Ol.s (stw (vs := (Shp.cells ⟨true,true,false,false,false⟩).toArray) sz_ir_shape rfl (shp_one ⟨true,true,false,false,false⟩) (i := 0) rfl rfl) ?_
    refine Ol.p asb ?_
    refine Ol.nil ?_
    exact Cd.ret ⟨.tuple _, retct rfl ag_ir_shape rfl rfl (i := 0) rfl rfl, [], .nil, rfl, rfl⟩
theorem ir_IsIns_1_ct {w : World} {n : Int} : Ct Tryz.prog 71 #[.int .i64 n] w (Is (.bool (!varB n))) := by
  refine Ct.mk Tryz.func71 rfl rfl ?_
  refine Cd.seq ?_
  refine Cd.region ?_
  refine Ol.p asb ?_
  refine Ol.nil ?_
  refine Cd.seq ?_
  refine Cd.region ?_
  refine Ol.p mvi ?_
  refine Ol.s (cl en_ir_variable (fun M w' hh => ir_variable_ct)) ?_
  refine Ol.p noti ?_
  refine Ol.p asb ?_
  refine Ol.nil ?_
  exact Cd.ret ⟨.bool _, ret1 rfl rfl, [], .nil, rfl, rfl⟩
set_option maxHeartbeats 2000000 in
theorem ir_IsIns_ct {w : World} {i : RIns} (hi : InsAt w i) : Ct Tryz.prog 33 #[i.val] w (Is (.bool (isIns i))) := by
  have hl8 : decide ((i.args.length : Int) ≤ 8) = decide (i.args.length ≤ 8) := by rw [decide_eq_decide]; omega
  have hl0 : decide ((i.args.length : Int) = 0) = decide (i.args.length = 0) := by rw [decide_eq_decide]; omega
  have hcal := uint_le99 hi.callee
  have hlen : i.args.length < 2 ^ 62 := by have := hi.len; omega
  refine Ct.mk Tryz.func33 rfl rfl ?_
  refine Cd.seq ?_
  refine Cd.region ?_
  refine Ol.x bxg ?_
  rintro _ _ ⟨g1, rfl, rfl⟩
  refine Ol.p asb ?_
  refine Ol.nil ?_
  refine Cd.seq ?_
  refine Cd.region ?_
  refine Ol.p (fdl fd_api_Ins_0) ?_
  refine Ol.p (ld one_api_Op (Rd.blk (i := 0) rfl rfl)) ?_
  refine Ol.s (cl en_ir_shaped (fun M w' hh => ir_shaped_ct (o := i.op))) ?_
  refine Ol.p mvt ?_
  refine Ol.p extv ?_
  refine Ol.p extv ?_
  refine Ol.x (alc zr_ir_shape) ?_
  rintro _ _ ⟨g3, rfl, rfl⟩
  refine Ol.s (stw (vs := (shp i.op).1.cells.toArray) sz_ir_shape rfl (shp_one _) (i := 0) rfl rfl) ?_
  refine Ol.p asb ?_
  refine Ol.nil ?_
  refine Cd.seq ?_
  obtain ⟨S, hS⟩ : ∃ S, S = (shp i.op).1 := ⟨_, rfl⟩
  rw [← hS]
  cases h2 : (shp i.op).2 with
  | false =>
    have hg : (!(shp i.op).2) = true := by rw [h2]; rfl
    refine Cd.seq ?_
    refine Cd.region ?_
    refine Ol.p mvb ?_
    refine Ol.p noti ?_
    refine Ol.p mvb ?_
    refine Ol.gn rfl ?_
    refine Ol.gn rfl ?_
    refine Ol.gn rfl ?_
    refine Ol.p (pkTb rfl) ?_
    refine Ol.nil ?_
    refine Cd.cond rfl (fun h => ?_) (fun h => by cases h)   -- $18
    refine Cd.seq ?_
    refine Cd.region ?_
    refine Ol.p asb ?_
    refine Ol.nil ?_
    refine Cd.ret ⟨.bool _, ret1 rfl rfl, [], .nil, ?_, rfl⟩
    unfold isIns; rw [h2]; rfl
  | true =>
  refine Cd.seq ?_
  refine Cd.region ?_
  refine Ol.p mvb ?_
  refine Ol.p noti ?_
  refine Ol.p mvb ?_
  refine Ol.gp rfl (fdl fd_api_Ins_7) ?_
  refine Ol.gp rfl (ld one_int (Rd.blk (i := 1) rfl rfl)) ?_
  refine Ol.gp rfl nei ?_
  refine Ol.p (pkFb rfl) ?_
  refine Ol.nil ?_
  refine Cd.cond rfl (fun h => ?_) (fun h => ?_)   -- $18
  · refine Cd.seq ?_
    refine Cd.region ?_
    refine Ol.p asb ?_
    refine Ol.nil ?_
    refine Cd.ret ⟨.bool _, ret1 rfl rfl, [], .nil, ?_, rfl⟩
    unfold isIns; rw [h2, h]; rfl
  have hm : decide (i.many = 0) = true := by simpa using h
  refine Cd.skip ?_
  refine Cd.seq ?_
  refine Cd.seq ?_
  refine Cd.region ?_
  refine Ol.p (fdl fd_ir_shape_4) ?_
  refine Ol.p (ld one_bool (Rd.blk (i := 0) rfl rfl)) ?_
  refine Ol.nil ?_
  refine Cd.cond rfl (fun hc => ?_) (fun hc => ?_)   -- $20
  · have e : isIns i = (noneB [i.a, i.b, i.imm] && (decide (0 ≤ i.callee) && decide (i.callee ≤ 99)) && fitsB (!decide (i.dst = 0)) i.dst && decide (i.args.length ≤ 8) && i.args.all varB) := by
      unfold isIns; rw [h2, hm, ← hS, hc]; rfl
    refine Cd.seq ?_
    refine Cd.region ?_
    refine Ol.p (as_ rfl) ?_
    refine Ol.nil ?_
    refine Cd.seq ?_
    cases c1 : noneB [i.a, i.b, i.imm] with
    | false =>
      refine Cd.region ?_
      refine Ol.p (fdl fd_api_Ins_2) ?_
      refine Ol.p (ld one_int (Rd.blk (i := 1) rfl rfl)) ?_
      refine Ol.p (fdl fd_api_Ins_3) ?_
      refine Ol.p (ld one_int (Rd.blk (i := 1) rfl rfl)) ?_
      refine Ol.p (fdl fd_api_Ins_4) ?_
      refine Ol.p (ld one_int (Rd.blk (i := 1) rfl rfl)) ?_
      refine Ol.x (bsv [.int .i64 i.a, .int .i64 i.b, .int .i64 i.imm] sl_L_int zr_int (by simp [Value.cells])) ?_
      rintro _ _ ⟨g27, rfl, rfl⟩
      refine Ol.s (cl en_ir_none (fun M w' hh => ir_none_ct (l := [i.a, i.b, i.imm]) (Reads.row hh (i := 0) rfl) (by simp))) ?_
      refine Ol.p mvb ?_
      refine Ol.gn c1 ?_
      refine Ol.gn c1 ?_
      refine Ol.gn c1 ?_
      refine Ol.gn c1 ?_
      refine Ol.p (pkFb c1) ?_
      refine Ol.p mvb ?_
      refine Ol.gn rfl ?_
      refine Ol.gn rfl ?_
      refine Ol.gn rfl ?_
      refine Ol.gn rfl ?_
      refine Ol.gn rfl ?_
      refine Ol.gn rfl ?_
      refine Ol.p (pkFb rfl) ?_
      refine Ol.p mvb ?_
      refine Ol.gn rfl ?_
      refine Ol.gn rfl ?_
      refine Ol.gn rfl ?_
      refine Ol.gn rfl ?_
      refine Ol.p (pkFb rfl) ?_
      refine Ol.p mvb ?_
      refine Ol.gn rfl ?_
      refine Ol.gn rfl ?_
      refine Ol.gn rfl ?_
      refine Ol.gn rfl ?_
      refine Ol.gn rfl ?_
      refine Ol.p (pkFb rfl) ?_
      refine Ol.p asb ?_
      refine Ol.nil ?_
      exact Cd.ret ⟨.bool _, ret1 rfl rfl, [], .nil, by rw [e, c1]; rfl, rfl⟩
    | true =>
    cases c2 : decide (0 ≤ i.callee) && decide (i.callee ≤ 99) with
    | false =>
      refine Cd.region ?_
      refine Ol.p (fdl fd_api_Ins_2) ?_
      refine Ol.p (ld one_int (Rd.blk (i := 1) rfl rfl)) ?_
      refine Ol.p (fdl fd_api_Ins_3) ?_
      refine Ol.p (ld one_int (Rd.blk (i := 1) rfl rfl)) ?_
      refine Ol.p (fdl fd_api_Ins_4) ?_
      refine Ol.p (ld one_int (Rd.blk (i := 1) rfl rfl)) ?_
      refine Ol.x (bsv [.int .i64 i.a, .int .i64 i.b, .int .i64 i.imm] sl_L_int zr_int (by simp [Value.cells])) ?_
      rintro _ _ ⟨g27, rfl, rfl⟩
      refine Ol.s (cl en_ir_none (fun M w' hh => ir_none_ct (l := [i.a, i.b, i.imm]) (Reads.row hh (i := 0) rfl) (by simp))) ?_
      refine Ol.p mvb ?_
      refine Ol.gp c1 (fdl fd_api_Ins_5) ?_
      refine Ol.gp c1 (ld one_int (Rd.blk (i := 2) rfl rfl)) ?_
      refine Ol.gp c1 (cvw in_int in_uint) ?_
      refine Ol.gp c1 lei ?_
      refine Ol.p (pkTb c1) ?_
      refine Ol.p mvb ?_
      refine Ol.gn (hcal.trans c2) ?_
      refine Ol.gn (hcal.trans c2) ?_
      refine Ol.gn (hcal.trans c2) ?_
      refine Ol.gn (hcal.trans c2) ?_
      refine Ol.gn (hcal.trans c2) ?_
      refine Ol.gn (hcal.trans c2) ?_
      refine Ol.p (pkFb (hcal.trans c2)) ?_
      refine Ol.p mvb ?_
      refine Ol.gn rfl ?_
      refine Ol.gn rfl ?_
      refine Ol.gn rfl ?_
      refine Ol.gn rfl ?_
      refine Ol.p (pkFb rfl) ?_
      refine Ol.p mvb ?_
      refine Ol.gn rfl ?_
      refine Ol.gn rfl ?_
      refine Ol.gn rfl ?_
      refine Ol.gn rfl ?_
      refine Ol.gn rfl ?_
      refine Ol.p (pkFb rfl) ?_
      refine Ol.p asb ?_
      refine Ol.nil ?_
      exact Cd.ret ⟨.bool _, ret1 rfl rfl, [], .nil, by rw [e, c1, c2]; rfl, rfl⟩
    | true =>
    cases c3 : fitsB (!decide (i.dst = 0)) i.dst with
    | false =>
      refine Cd.region ?_
      refine Ol.p (fdl fd_api_Ins_2) ?_
      refine Ol.p (ld one_int (Rd.blk (i := 1) rfl rfl)) ?_
      refine Ol.p (fdl fd_api_Ins_3) ?_
      refine Ol.p (ld one_int (Rd.blk (i := 1) rfl rfl)) ?_
      refine Ol.p (fdl fd_api_Ins_4) ?_
      refine Ol.p (ld one_int (Rd.blk (i := 1) rfl rfl)) ?_
      refine Ol.x (bsv [.int .i64 i.a, .int .i64 i.b, .int .i64 i.imm] sl_L_int zr_int (by simp [Value.cells])) ?_
      rintro _ _ ⟨g27, rfl, rfl⟩
      refine Ol.s (cl en_ir_none (fun M w' hh => ir_none_ct (l := [i.a, i.b, i.imm]) (Reads.row hh (i := 0) rfl) (by simp))) ?_
      refine Ol.p mvb ?_
      refine Ol.gp c1 (fdl fd_api_Ins_5) ?_
      refine Ol.gp c1 (ld one_int (Rd.blk (i := 2) rfl rfl)) ?_
      refine Ol.gp c1 (cvw in_int in_uint) ?_
      refine Ol.gp c1 lei ?_
      refine Ol.p (pkTb c1) ?_
      refine Ol.p mvb ?_
      refine Ol.gp (hcal.trans c2) (fdl fd_api_Ins_1) ?_
      refine Ol.gp (hcal.trans c2) (ld one_int (Rd.blk (i := 2) rfl rfl)) ?_
      refine Ol.gp (hcal.trans c2) nei ?_
      refine Ol.gp (hcal.trans c2) (fdl fd_api_Ins_1) ?_
      refine Ol.gp (hcal.trans c2) (ld one_int (Rd.blk (i := 2) rfl rfl)) ?_
      refine Ol.gs (hcal.trans c2) (cl en_ir_fits (fun M w' hh => ir_fits_ct)) ?_
      refine Ol.p (pkTb (hcal.trans c2)) ?_
      refine Ol.p mvb ?_
      refine Ol.gn c3 ?_
      refine Ol.gn c3 ?_
      refine Ol.gn c3 ?_
      refine Ol.gn c3 ?_
      refine Ol.p (pkFb c3) ?_
      refine Ol.p mvb ?_
      refine Ol.gn rfl ?_
      refine Ol.gn rfl ?_
      refine Ol.gn rfl ?_
      refine Ol.gn rfl ?_
      refine Ol.gn rfl ?_
      refine Ol.p (pkFb rfl) ?_
      refine Ol.p asb ?_
      refine Ol.nil ?_
      exact Cd.ret ⟨.bool _, ret1 rfl rfl, [], .nil, by rw [e, c1, c2, c3]; rfl, rfl⟩
    | true =>
    cases c4 : decide (i.args.length ≤ 8) with
    | false =>
      refine Cd.region ?_
      refine Ol.p (fdl fd_api_Ins_2) ?_
      refine Ol.p (ld one_int (Rd.blk (i := 1) rfl rfl)) ?_
      refine Ol.p (fdl fd_api_Ins_3) ?_
      refine Ol.p (ld one_int (Rd.blk (i := 1) rfl rfl)) ?_
      refine Ol.p (fdl fd_api_Ins_4) ?_
      refine Ol.p (ld one_int (Rd.blk (i := 1) rfl rfl)) ?_
      refine Ol.x (bsv [.int .i64 i.a, .int .i64 i.b, .int .i64 i.imm] sl_L_int zr_int (by simp [Value.cells])) ?_
      rintro _ _ ⟨g27, rfl, rfl⟩
      refine Ol.s (cl en_ir_none (fun M w' hh => ir_none_ct (l := [i.a, i.b, i.imm]) (Reads.row hh (i := 0) rfl) (by simp))) ?_
      refine Ol.p mvb ?_
      refine Ol.gp c1 (fdl fd_api_Ins_5) ?_
      refine Ol.gp c1 (ld one_int (Rd.blk (i := 2) rfl rfl)) ?_
      refine Ol.gp c1 (cvw in_int in_uint) ?_
      refine Ol.gp c1 lei ?_
      refine Ol.p (pkTb c1) ?_
      refine Ol.p mvb ?_
      refine Ol.gp (hcal.trans c2) (fdl fd_api_Ins_1) ?_
      refine Ol.gp (hcal.trans c2) (ld one_int (Rd.blk (i := 2) rfl rfl)) ?_
      refine Ol.gp (hcal.trans c2) nei ?_
      refine Ol.gp (hcal.trans c2) (fdl fd_api_Ins_1) ?_
      refine Ol.gp (hcal.trans c2) (ld one_int (Rd.blk (i := 2) rfl rfl)) ?_
      refine Ol.gs (hcal.trans c2) (cl en_ir_fits (fun M w' hh => ir_fits_ct)) ?_
      refine Ol.p (pkTb (hcal.trans c2)) ?_
      refine Ol.p mvb ?_
      refine Ol.gp c3 (fdl fd_api_Ins_6) ?_
      refine Ol.gp c3 (ld one_L_int (Rd.blk (i := 2) rfl rfl)) ?_
      refine Ol.gp c3 (lens sl_L_int) ?_
      refine Ol.gp c3 lei ?_
      refine Ol.p (pkTb c3) ?_
      refine Ol.p mvb ?_
      refine Ol.gn (hl8.trans c4) ?_
      refine Ol.gn (hl8.trans c4) ?_
      refine Ol.gn (hl8.trans c4) ?_
      refine Ol.gn (hl8.trans c4) ?_
      refine Ol.gn (hl8.trans c4) ?_
      refine Ol.p (pkFb (hl8.trans c4)) ?_
      refine Ol.p asb ?_
      refine Ol.nil ?_
      exact Cd.ret ⟨.bool _, ret1 rfl rfl, [], .nil, by rw [e, c1, c2, c3, c4]; rfl, rfl⟩
    | true =>
      refine Cd.region ?_
      refine Ol.p (fdl fd_api_Ins_2) ?_
      refine Ol.p (ld one_int (Rd.blk (i := 1) rfl rfl)) ?_
      refine Ol.p (fdl fd_api_Ins_3) ?_
      refine Ol.p (ld one_int (Rd.blk (i := 1) rfl rfl)) ?_
      refine Ol.p (fdl fd_api_Ins_4) ?_
      refine Ol.p (ld one_int (Rd.blk (i := 1) rfl rfl)) ?_
      refine Ol.x (bsv [.int .i64 i.a, .int .i64 i.b, .int .i64 i.imm] sl_L_int zr_int (by simp [Value.cells])) ?_
      rintro _ _ ⟨g27, rfl, rfl⟩
      refine Ol.s (cl en_ir_none (fun M w' hh => ir_none_ct (l := [i.a, i.b, i.imm]) (Reads.row hh (i := 0) rfl) (by simp))) ?_
      refine Ol.p mvb ?_
      refine Ol.gp c1 (fdl fd_api_Ins_5) ?_
      refine Ol.gp c1 (ld one_int (Rd.blk (i := 2) rfl rfl)) ?_
      refine Ol.gp c1 (cvw in_int in_uint) ?_
      refine Ol.gp c1 lei ?_
      refine Ol.p (pkTb c1) ?_
      refine Ol.p mvb ?_
      refine Ol.gp (hcal.trans c2) (fdl fd_api_Ins_1) ?_
      refine Ol.gp (hcal.trans c2) (ld one_int (Rd.blk (i := 2) rfl rfl)) ?_
      refine Ol.gp (hcal.trans c2) nei ?_
      refine Ol.gp (hcal.trans c2) (fdl fd_api_Ins_1) ?_
      refine Ol.gp (hcal.trans c2) (ld one_int (Rd.blk (i := 2) rfl rfl)) ?_
      refine Ol.gs (hcal.trans c2) (cl en_ir_fits (fun M w' hh => ir_fits_ct)) ?_
      refine Ol.p (pkTb (hcal.trans c2)) ?_
      refine Ol.p mvb ?_
      refine Ol.gp c3 (fdl fd_api_Ins_6) ?_
      refine Ol.gp c3 (ld one_L_int (Rd.blk (i := 2) rfl rfl)) ?_
      refine Ol.gp c3 (lens sl_L_int) ?_
      refine Ol.gp c3 lei ?_
      refine Ol.p (pkTb c3) ?_
      refine Ol.p mvb ?_
      refine Ol.gp (hl8.trans c4) (fdl fd_api_Ins_6) ?_
      refine Ol.gp (hl8.trans c4) (ld one_L_int (Rd.blk (i := 2) rfl rfl)) ?_
      refine Ol.gp (hl8.trans c4) mvf ?_
      refine Ol.gs (hl8.trans c4) (cl en_slices_ContainsFunc_L_int_int (fun M w' hh => slices_ContainsFunc_L_int_int_ct (g := 71) (fst := #[]) (cap := #[]) (p := fun n => !varB n) (hi.args.now hh) hlen ⟨en_ir_IsIns_1, fun n hn w2 h2 => ir_IsIns_1_ct⟩)) ?_
      refine Ol.gp (hl8.trans c4) noti ?_
      refine Ol.p (pkTb (hl8.trans c4)) ?_
      refine Ol.p asb ?_
      refine Ol.nil ?_
      exact Cd.ret ⟨.bool _, ret1 rfl rfl, [], .nil, by rw [e, c1, c2, c3, c4, not_any_var]; rfl, rfl⟩
  refine Cd.skip ?_
  refine Cd.seq ?_
  refine Cd.mid (fun σ' L' => Has σ' [(1, .pointer (some ⟨g1, 0, none⟩)), (3, .pointer (some ⟨g3, 0, none⟩)), (73, .bool ((!S.imm && !decide (i.imm = 0)) || decide (i.imm < -1099511627776) || decide (1099511627776 < i.imm)))] ∧ [blk g3 (.cells S.cells.toArray 110), blk g1 (.cells i.cells.toArray 25)] = L') ?_ ?_
  · obtain ⟨p2, hp2⟩ : ∃ p2, p2 = decide (i.imm < -1099511627776) := ⟨_, rfl⟩
    cases p1 : S.imm with
    | true =>
      have hg : (!S.imm) = false := by rw [p1]; rfl
      cases p2 : decide (i.imm < -1099511627776) with
      | true =>
        refine Cd.region ?_
        refine Ol.p (fdl fd_ir_shape_3) ?_
        refine Ol.p (ld one_bool (Rd.blk (i := 0) rfl rfl)) ?_
        refine Ol.p noti ?_
        refine Ol.p mvb ?_
        refine Ol.gn hg ?_
        refine Ol.gn hg ?_
        refine Ol.gn hg ?_
        refine Ol.p (pkFb hg) ?_
        refine Ol.p mvb ?_
        refine Ol.gp rfl (fdl fd_api_Ins_4) ?_
        refine Ol.gp rfl (ld one_int (Rd.blk (i := 1) rfl rfl)) ?_
        refine Ol.gp rfl lsi ?_
        refine Ol.p (pkFb rfl) ?_
        refine Ol.p mvb ?_
        refine Ol.gn p2 ?_
        refine Ol.gn p2 ?_
        refine Ol.gn p2 ?_
        refine Ol.p (pkTb p2) ?_
        refine Ol.nil ?_
        exact ⟨⟨rfl, rfl, rfl, trivial⟩, rfl⟩
      | false =>
        refine Cd.region ?_
        refine Ol.p (fdl fd_ir_shape_3) ?_
        refine Ol.p (ld one_bool (Rd.blk (i := 0) rfl rfl)) ?_
        refine Ol.p noti ?_
        refine Ol.p mvb ?_
        refine Ol.gn hg ?_
        refine Ol.gn hg ?_
        refine Ol.gn hg ?_
        refine Ol.p (pkFb hg) ?_
        refine Ol.p mvb ?_
        refine Ol.gp rfl (fdl fd_api_Ins_4) ?_
        refine Ol.gp rfl (ld one_int (Rd.blk (i := 1) rfl rfl)) ?_
        refine Ol.gp rfl lsi ?_
        refine Ol.p (pkFb rfl) ?_
        refine Ol.p mvb ?_
        refine Ol.gp p2 (fdl fd_api_Ins_4) ?_
        refine Ol.gp p2 (ld one_int (Rd.blk (i := 1) rfl rfl)) ?_
        refine Ol.gp p2 gti ?_
        refine Ol.p (pkFb p2) ?_
        refine Ol.nil ?_
        exact ⟨⟨rfl, rfl, rfl, trivial⟩, rfl⟩
    | false =>
      have hg : (!S.imm) = true := by rw [p1]; rfl
      cases p3 : decide (i.imm = 0) with
      | false =>
        have hg3 : (!decide (i.imm = 0)) = true := by rw [p3]; rfl
        refine Cd.region ?_
        refine Ol.p (fdl fd_ir_shape_3) ?_
        refine Ol.p (ld one_bool (Rd.blk (i := 0) rfl rfl)) ?_
        refine Ol.p noti ?_
        refine Ol.p mvb ?_
        refine Ol.gp hg (fdl fd_api_Ins_4) ?_
        refine Ol.gp hg (ld one_int (Rd.blk (i := 1) rfl rfl)) ?_
        refine Ol.gp hg nei ?_
        refine Ol.p (pkTb hg) ?_
        refine Ol.p mvb ?_
        refine Ol.gn hg3 ?_
        refine Ol.gn hg3 ?_
        refine Ol.gn hg3 ?_
        refine Ol.p (pkTb hg3) ?_
        refine Ol.p mvb ?_
        refine Ol.gn rfl ?_
        refine Ol.gn rfl ?_
        refine Ol.gn rfl ?_
        refine Ol.p (pkTb rfl) ?_
        refine Ol.nil ?_
        exact ⟨⟨rfl, rfl, rfl, trivial⟩, rfl⟩
      | true =>
        have hg3 : (!decide (i.imm = 0)) = false := by rw [p3]; rfl
        cases p2 : decide (i.imm < -1099511627776) with
        | true =>
          refine Cd.region ?_
          refine Ol.p (fdl fd_ir_shape_3) ?_
          refine Ol.p (ld one_bool (Rd.blk (i := 0) rfl rfl)) ?_
          refine Ol.p noti ?_
          refine Ol.p mvb ?_
          refine Ol.gp hg (fdl fd_api_Ins_4) ?_
          refine Ol.gp hg (ld one_int (Rd.blk (i := 1) rfl rfl)) ?_
          refine Ol.gp hg nei ?_
          refine Ol.p (pkTb hg) ?_
          refine Ol.p mvb ?_
          refine Ol.gp hg3 (fdl fd_api_Ins_4) ?_
          refine Ol.gp hg3 (ld one_int (Rd.blk (i := 1) rfl rfl)) ?_
          refine Ol.gp hg3 lsi ?_
          refine Ol.p (pkFb hg3) ?_
          refine Ol.p mvb ?_
          refine Ol.gn p2 ?_
          refine Ol.gn p2 ?_
          refine Ol.gn p2 ?_
          refine Ol.p (pkTb p2) ?_
          refine Ol.nil ?_
          exact ⟨⟨rfl, rfl, rfl, trivial⟩, rfl⟩
        | false =>
          refine Cd.region ?_
          refine Ol.p (fdl fd_ir_shape_3) ?_
          refine Ol.p (ld one_bool (Rd.blk (i := 0) rfl rfl)) ?_
          refine Ol.p noti ?_
          refine Ol.p mvb ?_
          refine Ol.gp hg (fdl fd_api_Ins_4) ?_
          refine Ol.gp hg (ld one_int (Rd.blk (i := 1) rfl rfl)) ?_
          refine Ol.gp hg nei ?_
          refine Ol.p (pkTb hg) ?_
          refine Ol.p mvb ?_
          refine Ol.gp hg3 (fdl fd_api_Ins_4) ?_
          refine Ol.gp hg3 (ld one_int (Rd.blk (i := 1) rfl rfl)) ?_
          refine Ol.gp hg3 lsi ?_
          refine Ol.p (pkFb hg3) ?_
          refine Ol.p mvb ?_
          refine Ol.gp p2 (fdl fd_api_Ins_4) ?_
          refine Ol.gp p2 (ld one_int (Rd.blk (i := 1) rfl rfl)) ?_
          refine Ol.gp p2 gti ?_
          refine Ol.p (pkFb p2) ?_
          refine Ol.nil ?_
          exact ⟨⟨rfl, rfl, rfl, trivial⟩, rfl⟩
  rintro σ' _ ⟨hs', rfl⟩
  refine Cd.has hs' ?_
  refine Cd.cond rfl (fun hq => ?_) (fun hq => ?_)   -- $73
  · refine Cd.seq ?_
    refine Cd.region ?_
    refine Ol.p asb ?_
    refine Ol.nil ?_
    refine Cd.ret ⟨.bool _, ret1 rfl rfl, [], .nil, ?_, rfl⟩
    unfold isIns; rw [h2, hm, ← hS, hc, hq]; rfl
  have e : isIns i = (decide (i.callee = 0) && decide (i.args.length = 0) && fitsB S.dst i.dst && fitsB S.a i.a && fitsB S.b i.b) := by
    unfold isIns; rw [h2, hm, ← hS, hc, hq]; rfl
  refine Cd.skip ?_
  refine Cd.seq ?_
  cases c1 : decide (i.callee = 0) with
  | false =>
    refine Cd.region ?_
    refine Ol.p (fdl fd_api_Ins_5) ?_
    refine Ol.p (ld one_int (Rd.blk (i := 1) rfl rfl)) ?_
    refine Ol.p eqi ?_
    refine Ol.p mvb ?_
    refine Ol.gn c1 ?_
    refine Ol.gn c1 ?_
    refine Ol.gn c1 ?_
    refine Ol.gn c1 ?_
    refine Ol.p (pkFb c1) ?_
    refine Ol.p mvb ?_
    refine Ol.gn rfl ?_
    refine Ol.gn rfl ?_
    refine Ol.gn rfl ?_
    refine Ol.gn rfl ?_
    refine Ol.gn rfl ?_
    refine Ol.p (pkFb rfl) ?_
    refine Ol.p mvb ?_
    refine Ol.gn rfl ?_
    refine Ol.gn rfl ?_
    refine Ol.gn rfl ?_
    refine Ol.gn rfl ?_
    refine Ol.gn rfl ?_
    refine Ol.p (pkFb rfl) ?_
    refine Ol.p mvb ?_
    refine Ol.gn rfl ?_
    refine Ol.gn rfl ?_
    refine Ol.gn rfl ?_
    refine Ol.gn rfl ?_
    refine Ol.gn rfl ?_
    refine Ol.p (pkFb rfl) ?_
    refine Ol.p asb ?_
    refine Ol.nil ?_
    exact Cd.ret ⟨.bool _, ret1 rfl rfl, [], .nil, by rw [e, c1]; rfl, rfl⟩
  | true =>
  cases c2 : decide (i.args.length = 0) with
  | false =>
    refine Cd.region ?_
    refine Ol.p (fdl fd_api_Ins_5) ?_
    refine Ol.p (ld one_int (Rd.blk (i := 1) rfl rfl)) ?_
    refine Ol.p eqi ?_
    refine Ol.p mvb ?_
    refine Ol.gp c1 (fdl fd_api_Ins_6) ?_
    refine Ol.gp c1 (ld one_L_int (Rd.blk (i := 1) rfl rfl)) ?_
    refine Ol.gp c1 (lens sl_L_int) ?_
    refine Ol.gp c1 eqi ?_
    refine Ol.p (pkTb c1) ?_
    refine Ol.p mvb ?_
    refine Ol.gn (hl0.trans c2) ?_
    refine Ol.gn (hl0.trans c2) ?_
    refine Ol.gn (hl0.trans c2) ?_
    refine Ol.gn (hl0.trans c2) ?_
    refine Ol.gn (hl0.trans c2) ?_
    refine Ol.p (pkFb (hl0.trans c2)) ?_
    refine Ol.p mvb ?_
    refine Ol.gn rfl ?_
    refine Ol.gn rfl ?_
    refine Ol.gn rfl ?_
    refine Ol.gn rfl ?_
    refine Ol.gn rfl ?_
    refine Ol.p (pkFb rfl) ?_
    refine Ol.p mvb ?_
    refine Ol.gn rfl ?_
    refine Ol.gn rfl ?_
    refine Ol.gn rfl ?_
    refine Ol.gn rfl ?_
    refine Ol.gn rfl ?_
    refine Ol.p (pkFb rfl) ?_
    refine Ol.p asb ?_
    refine Ol.nil ?_
    exact Cd.ret ⟨.bool _, ret1 rfl rfl, [], .nil, by rw [e, c1, c2]; rfl, rfl⟩
  | true =>
  cases c3 : fitsB S.dst i.dst with
  | false =>
    refine Cd.region ?_
    refine Ol.p (fdl fd_api_Ins_5) ?_
    refine Ol.p (ld one_int (Rd.blk (i := 1) rfl rfl)) ?_
    refine Ol.p eqi ?_
    refine Ol.p mvb ?_
    refine Ol.gp c1 (fdl fd_api_Ins_6) ?_
    refine Ol.gp c1 (ld one_L_int (Rd.blk (i := 1) rfl rfl)) ?_
    refine Ol.gp c1 (lens sl_L_int) ?_
    refine Ol.gp c1 eqi ?_
    refine Ol.p (pkTb c1) ?_
    refine Ol.p mvb ?_
    refine Ol.gp (hl0.trans c2) (fdl fd_ir_shape_0) ?_
    refine Ol.gp (hl0.trans c2) (ld one_bool (Rd.blk (i := 0) rfl rfl)) ?_
    refine Ol.gp (hl0.trans c2) (fdl fd_api_Ins_1) ?_
    refine Ol.gp (hl0.trans c2) (ld one_int (Rd.blk (i := 1) rfl rfl)) ?_
    refine Ol.gs (hl0.trans c2) (cl en_ir_fits (fun M w' hh => ir_fits_ct)) ?_
    refine Ol.p (pkTb (hl0.trans c2)) ?_
    refine Ol.p mvb ?_
    refine Ol.gn c3 ?_
    refine Ol.gn c3 ?_
    refine Ol.gn c3 ?_
    refine Ol.gn c3 ?_
    refine Ol.gn c3 ?_
    refine Ol.p (pkFb c3) ?_
    refine Ol.p mvb ?_
    refine Ol.gn rfl ?_
    refine Ol.gn rfl ?_
    refine Ol.gn rfl ?_
    refine Ol.gn rfl ?_
    refine Ol.gn rfl ?_
    refine Ol.p (pkFb rfl) ?_
    refine Ol.p asb ?_
    refine Ol.nil ?_
    exact Cd.ret ⟨.bool _, ret1 rfl rfl, [], .nil, by rw [e, c1, c2, c3]; rfl, rfl⟩
  | true =>
  cases c4 : fitsB S.a i.a with
  | false =>
    refine Cd.region ?_
    refine Ol.p (fdl fd_api_Ins_5) ?_
    refine Ol.p (ld one_int (Rd.blk (i := 1) rfl rfl)) ?_
    refine Ol.p eqi ?_
    refine Ol.p mvb ?_
    refine Ol.gp c1 (fdl fd_api_Ins_6) ?_
    refine Ol.gp c1 (ld one_L_int (Rd.blk (i := 1) rfl rfl)) ?_
    refine Ol.gp c1 (lens sl_L_int) ?_
    refine Ol.gp c1 eqi ?_
    refine Ol.p (pkTb c1) ?_
    refine Ol.p mvb ?_
    refine Ol.gp (hl0.trans c2) (fdl fd_ir_shape_0) ?_
    refine Ol.gp (hl0.trans c2) (ld one_bool (Rd.blk (i := 0) rfl rfl)) ?_
    refine Ol.gp (hl0.trans c2) (fdl fd_api_Ins_1) ?_
    refine Ol.gp (hl0.trans c2) (ld one_int (Rd.blk (i := 1) rfl rfl)) ?_
    refine Ol.gs (hl0.trans c2) (cl en_ir_fits (fun M w' hh => ir_fits_ct)) ?_
    refine Ol.p (pkTb (hl0.trans c2)) ?_
    refine Ol.p mvb ?_
    refine Ol.gp c3 (fdl fd_ir_shape_1) ?_
    refine Ol.gp c3 (ld one_bool (Rd.blk (i := 0) rfl rfl)) ?_
    refine Ol.gp c3 (fdl fd_api_Ins_2) ?_
    refine Ol.gp c3 (ld one_int (Rd.blk (i := 1) rfl rfl)) ?_
    refine Ol.gs c3 (cl en_ir_fits (fun M w' hh => ir_fits_ct)) ?_
    refine Ol.p (pkTb c3) ?_
    refine Ol.p mvb ?_
    refine Ol.gn c4 ?_
    refine Ol.gn c4 ?_
    refine Ol.gn c4 ?_
    refine Ol.gn c4 ?_
    refine Ol.gn c4 ?_
    refine Ol.p (pkFb c4) ?_
    refine Ol.p asb ?_
    refine Ol.nil ?_
    exact Cd.ret ⟨.bool _, ret1 rfl rfl, [], .nil, by rw [e, c1, c2, c3, c4]; rfl, rfl⟩
  | true =>
    refine Cd.region ?_
    refine Ol.p (fdl fd_api_Ins_5) ?_
    refine Ol.p (ld one_int (Rd.blk (i := 1) rfl rfl)) ?_
    refine Ol.p eqi ?_
    refine Ol.p mvb ?_
    refine Ol.gp c1 (fdl fd_api_Ins_6) ?_
    refine Ol.gp c1 (ld one_L_int (Rd.blk (i := 1) rfl rfl)) ?_
    refine Ol.gp c1 (lens sl_L_int) ?_
    refine Ol.gp c1 eqi ?_
    refine Ol.p (pkTb c1) ?_
    refine Ol.p mvb ?_
    refine Ol.gp (hl0.trans c2) (fdl fd_ir_shape_0) ?_
    refine Ol.gp (hl0.trans c2) (ld one_bool (Rd.blk (i := 0) rfl rfl)) ?_
    refine Ol.gp (hl0.trans c2) (fdl fd_api_Ins_1) ?_
    refine Ol.gp (hl0.trans c2) (ld one_int (Rd.blk (i := 1) rfl rfl)) ?_
    refine Ol.gs (hl0.trans c2) (cl en_ir_fits (fun M w' hh => ir_fits_ct)) ?_
    refine Ol.p (pkTb (hl0.trans c2)) ?_
    refine Ol.p mvb ?_
    refine Ol.gp c3 (fdl fd_ir_shape_1) ?_
    refine Ol.gp c3 (ld one_bool (Rd.blk (i := 0) rfl rfl)) ?_
    refine Ol.gp c3 (fdl fd_api_Ins_2) ?_
    refine Ol.gp c3 (ld one_int (Rd.blk (i := 1) rfl rfl)) ?_
    refine Ol.gs c3 (cl en_ir_fits (fun M w' hh => ir_fits_ct)) ?_
    refine Ol.p (pkTb c3) ?_
    refine Ol.p mvb ?_
    refine Ol.gp c4 (fdl fd_ir_shape_2) ?_
    refine Ol.gp c4 (ld one_bool (Rd.blk (i := 0) rfl rfl)) ?_
    refine Ol.gp c4 (fdl fd_api_Ins_3) ?_
    refine Ol.gp c4 (ld one_int (Rd.blk (i := 1) rfl rfl)) ?_
    refine Ol.gs c4 (cl en_ir_fits (fun M w' hh => ir_fits_ct)) ?_
    refine Ol.p (pkTb c4) ?_
    refine Ol.p asb ?_
    refine Ol.nil ?_
    exact Cd.ret ⟨.bool _, ret1 rfl rfl, [], .nil, by rw [e, c1, c2, c3, c4]; rfl, rfl⟩
end
end Go.Proofs.YtjenaenakopicaaGreat

/- The package ir: what instructions read and define, what ends need; sets: walked. -/
namespace Go.Proofs.YtjenaenakopicaaGreat
set_option linter.unusedVariables false
open Go Go.RowKit
set_option maxRecDepth 100000

theorem RIns.one (i : RIns) : ∀ u ∈ i.cells, u.oneCell' = true := by
  intro u hu
  unfold RIns.cells at hu
  simp only [List.mem_cons, List.not_mem_nil, or_false] at hu
  rcases hu with rfl | rfl | rfl | rfl | rfl | rfl | rfl | rfl <;> rfl
/-- A block that can be read. -/
structure BlkAt (w : World) (b : RBlk) : Prop where
  ins : Reads w w.heap.size 8 b.iA b.ins.length (b.ins.flatMap RIns.cells)
  all : ∀ i ∈ b.ins, InsAt w i
  len : b.ins.length < 2 ^ 50
theorem BlkAt.now {w0 w : World} {L : List Res} {b : RBlk} (h : BlkAt w0 b) (hh : Hp w0 w0.heap.size L w) : BlkAt w b := ⟨h.ins.now hh, fun i hi => (h.all i hi).now hh, h.len⟩
theorem FunAt.blk {w : World} {f : RFun} (hf : FunAt w w.heap.size f) (hfit : Fit f) {b : RBlk} (hb : b ∈ f.blocks) : BlkAt w b :=
  ⟨hf.ins b hb, fun i hi => ⟨hf.args b hb i hi, hfit.alen b hb i hi, hfit.insr b hb i hi i.callee (by simp)⟩, hfit.ilen b hb⟩
theorem ins_cell {l : List RIns} {k j : Nat} {i : RIns} {u : Value} (hk : l[k]? = some i) (hu : i.cells[j]? = some u) : (l.flatMap RIns.cells)[k * 8 + j]? = some u := by
  rw [flat_get RIns.len _ _ _ _ hk (by have := (List.getElem?_eq_some_iff.1 hu).1; rw [RIns.len] at this; exact this)]; exact hu
/-- What the first k of its two parts read. -/
def abTo (i : RIns) (k : Nat) : List Int := ([i.a, i.b].take k).filter fun n => !decide (n = 0)
theorem abTo_len (i : RIns) (k : Nat) : (abTo i k).length ≤ 2 := by
  unfold abTo
  have h1 : (([i.a, i.b].take k).filter fun n => !decide (n = 0)).length ≤ ([i.a, i.b].take k).length := List.length_filter_le _ _
  have h2 : ([i.a, i.b].take k).length ≤ 2 := by simp [List.length_take]; omega
  omega
theorem abTo_succ {i : RIns} {k : Nat} {v : Int} (h : [i.a, i.b][k]? = some v) : abTo i (k + 1) = if v = 0 then abTo i k else abTo i k ++ [v] := by
  unfold abTo
  rw [take_snoc_ h, List.filter_append]
  by_cases e : v = 0 <;> simp [e]
section
set_option maxHeartbeats 1000000 in
theorem ir_Reads_ct {w : World} {i : RIns} (hi : InsAt w i) : Ct Tryz.prog 30 #[i.val] w (NewL 3 1 (readsL i).length (ints (readsL i))) := by
  refine Ct.mk Tryz.func30 rfl rfl ?_
  refine Cd.seq ?_
  refine Cd.region ?_
  refine Ol.x bxg ?_
  rintro _ _ ⟨g1, rfl, rfl⟩
  refine Ol.p ass ?_
  refine Ol.nil ?_
  refine Cd.seq ?_
  refine Cd.seq ?_
  refine Cd.region ?_
  refine Ol.p (ldw ag_api_Ins (i := 0) rfl rfl) ?_
  refine Ol.s (cl en_ir_IsIns (fun M w' hh => ir_IsIns_ct (hi.now hh))) ?_
  refine Ol.p noti ?_
  refine Ol.nil ?_
  refine Cd.cond rfl (fun h => ?_) (fun h => ?_)   -- $7
  · have e : readsL i = [] := by
      unfold readsL
      have : isIns i = false := by simpa using h
      rw [this]; rfl
    rw [e]
    refine Cd.seq ?_
    refine Cd.region ?_
    refine Ol.p ass ?_
    refine Ol.nil ?_
    refine Cd.nr 3 1 ?_
    exact Cd.ret ⟨.slice none 0 0, ret1 rfl rfl, _, .sub (.cons_cons _ (.cons _ .slnil)), none, 0, rfl, rfl⟩
  have his : isIns i = true := by simpa using h
  have hargs := (isIns_parts his).2.2.2.2
  have e : readsL i = abTo i 2 ++ i.args := by unfold readsL abTo; rw [his]; rfl
  refine Cd.skip ?_
  refine Cd.seq ?_
  refine Cd.seq ?_
  refine Cd.region ?_
  refine Ol.p (fdl fd_api_Ins_2) ?_
  refine Ol.p (ld one_int (Rd.blk (i := 0) rfl rfl)) ?_
  refine Ol.p (fdl fd_api_Ins_3) ?_
  refine Ol.p (ld one_int (Rd.blk (i := 0) rfl rfl)) ?_
  refine Ol.p (bda (cs := #[.int .i64 i.a, .int .i64 i.b]) ar_A2_int zr_A2_int (hf := by kernel_rfl)) ?_
  refine Ol.p mvi ?_
  refine Ol.nil ?_
  refine Cd.nr 3 1 ?_
  refine Cd.block ?_   -- 0
  obtain ⟨L0, hL0⟩ : ∃ L0, L0 = [blk g1 (.cells i.cells.toArray 25)] := ⟨_, rfl⟩
  refine Cd.loop (fun m σ L => ∃ (k : Nat) (A : Option Addr) (c : Nat), m = 2 - k ∧ k ≤ 2 ∧ Has σ [(1, .pointer (some ⟨g1, 0, none⟩)), (2, .slice A (abTo i k).length c), (12, .agg #[.int .i64 i.a, .int .i64 i.b]), (13, .int .i64 k)] ∧ row (.slice A (abTo i k).length c) 3 1 (abTo i k).length (ints (abTo i k)) :: L0 = L) (n := 2) ⟨0, none, 0, rfl, Nat.zero_le _, ⟨rfl, rfl, rfl, rfl, trivial⟩, by rw [hL0]; rfl⟩ ?_
  rintro _ σ L ⟨k, A, c, rfl, hk, hs, rfl⟩
  refine Cd.has hs ?_
  refine Cd.seq ?_
  rw [hL0]
  refine Cd.region ?_
  refine Ol.p lsi ?_
  refine Ol.nil ?_
  refine Cd.seq ?_
  refine Cd.cond rfl (fun h => ?_) (fun h => ?_)   -- $14
  · have hlt : k < 2 := by
      simp only [decide_eq_true_eq] at h; omega
    obtain ⟨v, hv⟩ : ∃ v, [i.a, i.b][k]? = some v := ⟨_, List.getElem?_eq_getElem hlt⟩
    have hvv : (#[Value.int .i64 i.a, .int .i64 i.b] : Array Value)[k]? = some (.int .i64 v) := by
      rcases k with _ | _ | k
      · cases hv; rfl
      · cases hv; rfl
      · omega
    have hlen := abTo_len i k
    refine Cd.skip ?_
    refine Cd.mid (fun σ' L' => ∃ A' c', Has σ' [(1, .pointer (some ⟨g1, 0, none⟩)), (2, .slice A' (abTo i (k + 1)).length c'), (12, .agg #[.int .i64 i.a, .int .i64 i.b]), (13, .int .i64 k)] ∧ row (.slice A' (abTo i (k + 1)).length c') 3 1 (abTo i (k + 1)).length (ints (abTo i (k + 1))) :: L0 = L') ?_ ?_
    · refine Cd.block ?_   -- 1
      refine Cd.seq ?_
      refine Cd.region ?_
      refine Ol.p (ixv (k := k) ar_A2_int one_int hlt hvv) ?_
      refine Ol.p asi ?_
      refine Ol.nil ?_
      refine Cd.seq ?_
      refine Cd.region ?_
      refine Ol.p mvi ?_
      refine Ol.p nei ?_
      refine Ol.nil ?_
      refine Cd.cond rfl (fun h2 => ?_) (fun h2 => ?_)   -- $17
      · have h0 : v ≠ 0 := by simpa using h2
        have e2 : abTo i (k + 1) = abTo i k ++ [v] := by rw [abTo_succ hv, if_neg h0]
        refine Cd.region ?_
        refine Ol.p mvs ?_
        refine Ol.p mvi ?_
        refine Ol.x (bsv [.int .i64 v] sl_L_int zr_int (by simp [Value.cells])) ?_
        rintro _ _ ⟨g20, rfl, rfl⟩
        refine Ol.x (apn (i := 1) (m := 1) sl_L_int zr_int rfl (by decide) rfl (Src.row (i := 0) rfl rfl) (by intro u hu; simp at hu; subst hu; rfl) (by unfold maxLen; omega) (by omega)) ?_
        rintro _ _ ⟨A', c', rfl, rfl⟩
        refine Ol.p ass ?_
        refine Ol.keep (.sub (.cons _ (List.Sublist.refl _))) ?_
        refine Ol.nil ?_
        refine ⟨A', c', ⟨rfl, ?_, rfl, rfl, trivial⟩, ?_⟩
        · rw [e2, List.length_append]; rfl
        · rw [e2, List.length_append, hL0, show ints (abTo i k ++ [v]) = ints (abTo i k) ++ [.int .i64 v] by simp [ints]]; rfl
      have h0 : v = 0 := by simpa using h2
      have e2 : abTo i (k + 1) = abTo i k := by rw [abTo_succ hv, if_pos h0]
      refine Cd.skip ?_
      rw [e2]
      exact ⟨A, c, ⟨rfl, rfl, rfl, rfl, trivial⟩, by rw [hL0]⟩
    rintro σ' _ ⟨A', c', hs', rfl⟩
    refine Cd.has hs' ?_
    rw [hL0]
    refine Cd.region ?_
    refine Ol.p addi ?_
    refine Ol.p mvi ?_
    refine Ol.nil ?_
    exact ⟨2 - (k + 1), by omega, k + 1, A', c', rfl, by omega, ⟨rfl, rfl, rfl, rfl, trivial⟩, rfl⟩
  have hk2 : k = 2 := by
    have : ¬ (k : Int) < 2 := by simpa using h
    omega
  subst hk2
  have hlen := abTo_len i 2
  refine Cd.exit (id := 0) ?_
  refine Cd.seq ?_
  refine Cd.region ?_
  refine Ol.p mvs ?_
  refine Ol.p (fdl fd_api_Ins_6) ?_
  refine Ol.p (ld one_L_int (Rd.blk (i := 1) rfl rfl)) ?_
  refine Ol.x (apn (i := 0) (m := i.args.length) sl_L_int zr_int rfl (by decide) rfl (Src.slc hi.args) (ints_one _) (by unfold maxLen; omega) (by omega)) ?_
  rintro _ _ ⟨A', c', rfl, rfl⟩
  refine Ol.p ass ?_
  refine Ol.nil ?_
  rw [e]
  refine Cd.ret ⟨.slice A' _ c', ret1 rfl rfl, _, .sub (.cons_cons _ (.cons _ .slnil)), A', c', ?_, ?_⟩
  · rw [List.length_append]
  · rw [List.length_append, show ints (abTo i 2 ++ i.args) = ints (abTo i 2) ++ ints i.args by simp [ints]]
end
section
theorem ir_Needs_ct {w : World} {t : Tm} : Ct Tryz.prog 31 #[t.val] w (NewL 3 1 (needsL t).length (ints (needsL t))) := by
  refine Ct.mk Tryz.func31 rfl rfl ?_
  refine Cd.seq ?_
  refine Cd.region ?_
  refine Ol.x bxg ?_
  rintro _ _ ⟨g1, rfl, rfl⟩
  refine Ol.p ass ?_
  refine Ol.nil ?_
  refine Cd.seq ?_
  refine Cd.seq ?_
  cases h1 : isTerm t with
  | false =>
    have e : needsL t = [] := by unfold needsL; rw [h1]; rfl
    have hg : (!isTerm t) = true := by rw [h1]; rfl
    rw [e]
    refine Cd.region ?_
    refine Ol.p (ldw ag_api_Term (i := 0) rfl rfl) ?_
    refine Ol.s (cl en_ir_IsTerm (fun M w' hh => ir_IsTerm_ct (t := t))) ?_
    refine Ol.p noti ?_
    refine Ol.p mvb ?_
    refine Ol.gn hg ?_
    refine Ol.gn hg ?_
    refine Ol.gn hg ?_
    refine Ol.p (pkTb hg) ?_
    refine Ol.nil ?_
    refine Cd.cond rfl (fun h => ?_) (fun h => by cases h)   -- $10
    refine Cd.seq ?_
    refine Cd.region ?_
    refine Ol.p ass ?_
    refine Ol.nil ?_
    refine Cd.nr 3 1 ?_
    exact Cd.ret ⟨.slice none 0 0, ret1 rfl rfl, _, .sub (.cons_cons _ (.cons _ .slnil)), none, 0, rfl, rfl⟩
  | true =>
    have hg : (!isTerm t) = false := by rw [h1]; rfl
    refine Cd.region ?_
    refine Ol.p (ldw ag_api_Term (i := 0) rfl rfl) ?_
    refine Ol.s (cl en_ir_IsTerm (fun M w' hh => ir_IsTerm_ct (t := t))) ?_
    refine Ol.p noti ?_
    refine Ol.p mvb ?_
    refine Ol.gp hg (fdl fd_api_Term_1) ?_
    refine Ol.gp hg (ld one_int (Rd.blk (i := 0) rfl rfl)) ?_
    refine Ol.gp hg eqi ?_
    refine Ol.p (pkFb hg) ?_
    refine Ol.nil ?_
    refine Cd.cond rfl (fun h => ?_) (fun h => ?_)   -- $10
    · have e : needsL t = [] := by unfold needsL; rw [h1, h]; rfl
      rw [e]
      refine Cd.seq ?_
      refine Cd.region ?_
      refine Ol.p ass ?_
      refine Ol.nil ?_
      refine Cd.nr 3 1 ?_
      exact Cd.ret ⟨.slice none 0 0, ret1 rfl rfl, _, .sub (.cons_cons _ (.cons _ .slnil)), none, 0, rfl, rfl⟩
    have e : needsL t = [t.a] := by unfold needsL; rw [h1, h]; rfl
    rw [e]
    refine Cd.skip ?_
    refine Cd.seq ?_
    refine Cd.region ?_
    refine Ol.p (fdl fd_api_Term_1) ?_
    refine Ol.p (ld one_int (Rd.blk (i := 0) rfl rfl)) ?_
    refine Ol.x (bsv [.int .i64 t.a] sl_L_int zr_int (by simp [Value.cells])) ?_
    rintro _ _ ⟨g13, rfl, rfl⟩
    refine Ol.p ass ?_
    refine Ol.nil ?_
    exact Cd.ret ⟨.slice _ _ _, ret1 rfl rfl, _, .sub (.cons_cons _ (.cons _ .slnil)), _, _, rfl, rfl⟩
end
section
theorem ir_Defines_ct {w : World} {i : RIns} (hi : InsAt w i) : Ct Tryz.prog 39 #[i.val] w (Is (.int .i64 (defI i))) := by
  refine Ct.mk Tryz.func39 rfl rfl ?_
  refine Cd.seq ?_
  refine Cd.region ?_
  refine Ol.x bxg ?_
  rintro _ _ ⟨g1, rfl, rfl⟩
  refine Ol.p asi ?_
  refine Ol.nil ?_
  refine Cd.seq ?_
  refine Cd.seq ?_
  refine Cd.region ?_
  refine Ol.p (ldw ag_api_Ins (i := 0) rfl rfl) ?_
  refine Ol.s (cl en_ir_IsIns (fun M w' hh => ir_IsIns_ct (hi.now hh))) ?_
  refine Ol.p noti ?_
  refine Ol.nil ?_
  refine Cd.cond rfl (fun h => ?_) (fun h => ?_)   -- $5
  · refine Cd.seq ?_
    refine Cd.region ?_
    refine Ol.p asi ?_
    refine Ol.nil ?_
    refine Cd.ret ⟨.int .i64 _, ret1 rfl rfl, [], .nil, ?_, rfl⟩
    have : isIns i = false := by simpa using h
    unfold defI; rw [this]; rfl
  refine Cd.skip ?_
  refine Cd.seq ?_
  refine Cd.region ?_
  refine Ol.p (fdl fd_api_Ins_1) ?_
  refine Ol.p (ld one_int (Rd.blk (i := 0) rfl rfl)) ?_
  refine Ol.p asi ?_
  refine Ol.nil ?_
  refine Cd.ret ⟨.int .i64 _, ret1 rfl rfl, [], .nil, ?_, rfl⟩
  have : isIns i = true := by simpa using h
  unfold defI; rw [this]; rfl
end
section
theorem zeroV : (Array.replicate 201 (Value.bool false)) = encV fun _ => false := by
  apply Array.ext'
  simp [encV, List.map_const']
theorem encV_put {f g : VS} {k : Nat} {b : Bool} (h : ∀ i, i < 201 → putV f k b i = g i) : (encV f).setIfInBounds k (.bool b) = encV g := by rw [encV_set]; exact encV_congr h
theorem ir_full_ct {w : World} : Ct Tryz.prog 130 #[] w (Is (.agg (encV fun _ => true))) := by
  refine Ct.mk Tryz.func130 rfl rfl ?_
  refine Cd.seq ?_
  refine Cd.region ?_
  refine Ol.x (alc zr_ir_set) ?_
  rintro _ _ ⟨g0, rfl, rfl⟩
  refine Ol.nil ?_
  refine Cd.seq ?_
  refine Cd.seq ?_
  refine Cd.region ?_
  refine Ol.p mvi ?_
  refine Ol.nil ?_
  refine Cd.block ?_   -- 0
  refine Cd.loop (fun m σ L => ∃ k, m = 201 - k ∧ k ≤ 201 ∧ Has σ [(0, .pointer (some ⟨g0, 0, none⟩)), (2, .int .i64 (k : Nat))] ∧ [blk g0 (.cells (encV fun j => decide (j < k)) 145)] = L) (n := 201) ⟨0, rfl, Nat.zero_le _, ⟨rfl, rfl, trivial⟩, by rw [show (encV fun j => decide (j < 0)) = encV fun _ => false from encV_congr fun i _ => by simp, ← zeroV]; rfl⟩ ?_
  rintro _ σ L ⟨k, rfl, hk, hs, rfl⟩
  refine Cd.has hs ?_
  refine Cd.seq ?_
  refine Cd.region ?_
  refine Ol.p lsi ?_
  refine Ol.nil ?_
  refine Cd.seq ?_
  refine Cd.cond rfl (fun h => ?_) (fun h => ?_)   -- $3
  · have hlt : k < 201 := by
      simp only [decide_eq_true_eq] at h; omega
    refine Cd.skip ?_
    refine Cd.seq ?_
    refine Cd.block ?_   -- 1
    refine Cd.seq ?_
    refine Cd.region ?_
    refine Ol.p mvi ?_
    refine Ol.p asi ?_
    refine Ol.nil ?_
    refine Cd.region ?_
    refine Ol.p mvi ?_
    refine Ol.p (ixl1 (ix := k) ar_ir_set) ?_
    refine Ol.s (sto (k := k) (.inr sz_bool) rfl rfl (i := 0) rfl (by rw [encV_size]; exact hlt) rfl) ?_
    refine Ol.nil ?_
    refine Cd.region ?_
    refine Ol.p addi ?_
    refine Ol.p mvi ?_
    refine Ol.nil ?_
    refine ⟨201 - (k + 1), by omega, k + 1, rfl, by omega, ⟨rfl, rfl, trivial⟩, ?_⟩
    have e : (encV fun j => decide (j < k)).setIfInBounds k (.bool true) = encV fun j => decide (j < k + 1) := encV_put fun j hj => by
      unfold putV
      by_cases e : j = k
      · simp [e]
      · rw [if_neg e, decide_eq_decide]; omega
    exact congrArg (fun cs => [blk g0 (.cells cs 145)]) e.symm
  have hk2 : k = 201 := by
    have : ¬ (k : Int) < 201 := by simpa using h
    omega
  subst hk2
  rw [show (encV fun j => decide (j < 201)) = encV fun _ => true from encV_congr fun i hi => by simpa using hi]
  refine Cd.exit (id := 0) ?_
  refine Cd.seq ?_
  refine Cd.region ?_
  refine Ol.p (ldw ag_ir_set (i := 0) rfl (encV_size _)) ?_
  refine Ol.s (stw sz_ir_set (encV_size _) (encV_one _) (i := 0) rfl (encV_size _)) ?_
  refine Ol.nil ?_
  exact Cd.ret ⟨.agg _, retc rfl ag_ir_set rfl (i := 0) rfl (encV_size _), [], .nil, rfl, rfl⟩
end
section
theorem ir_set_meet_ct {w : World} {s t : VS} : Ct Tryz.prog 131 #[.agg (encV s), .agg (encV t)] w (Is (.agg (encV fun j => s j && t j))) := by
  refine Ct.mk Tryz.func131 rfl rfl ?_
  refine Cd.seq ?_
  refine Cd.region ?_
  refine Ol.x bxg ?_
  rintro _ _ ⟨g2, rfl, rfl⟩
  refine Ol.x bxg ?_
  rintro _ _ ⟨g3, rfl, rfl⟩
  refine Ol.x (alc zr_ir_set) ?_
  rintro _ _ ⟨g4, rfl, rfl⟩
  refine Ol.nil ?_
  refine Cd.seq ?_
  refine Cd.seq ?_
  refine Cd.region ?_
  refine Ol.p mvi ?_
  refine Ol.nil ?_
  obtain ⟨Z, hZ⟩ : ∃ Z, Z = encV fun _ => false := ⟨_, rfl⟩
  refine Cd.block ?_   -- 0
  refine Cd.loop (fun m σ L => ∃ k, m = 201 - k ∧ k ≤ 201 ∧ Has σ [(2, .pointer (some ⟨g2, 0, none⟩)), (3, .pointer (some ⟨g3, 0, none⟩)), (4, .pointer (some ⟨g4, 0, none⟩)), (6, .int .i64 (k : Nat))] ∧ [blk g4 (.cells Z 145), blk g3 (.cells (encV t) 145), blk g2 (.cells (encV fun j => if j < k then s j && t j else s j) 145)] = L) (n := 201) ⟨0, rfl, Nat.zero_le _, ⟨rfl, rfl, rfl, rfl, trivial⟩, by rw [hZ, ← zeroV, show (encV fun j => if j < 0 then s j && t j else s j) = encV s from encV_congr fun i _ => by simp]; rfl⟩ ?_
  rintro _ σ L ⟨k, rfl, hk, hs, rfl⟩
  refine Cd.has hs ?_
  refine Cd.seq ?_
  refine Cd.region ?_
  refine Ol.p lsi ?_
  refine Ol.nil ?_
  refine Cd.seq ?_
  refine Cd.cond rfl (fun h => ?_) (fun h => ?_)   -- $7
  · have hlt : k < 201 := by
      simp only [decide_eq_true_eq] at h; omega
    have hput : ∀ b, b = (s k && t k) → (encV fun j => if j < k then s j && t j else s j).setIfInBounds k (.bool b) = encV fun j => if j < k + 1 then s j && t j else s j := fun b hb => encV_put fun j hj => by
      unfold putV
      by_cases e : j = k
      · subst e; rw [if_pos rfl, if_pos (by omega), hb]
      · rw [if_neg e]
        show (if j < k then s j && t j else s j) = _
        by_cases h2 : j < k
        · rw [if_pos h2, if_pos (by omega)]
        · rw [if_neg h2, if_neg (by omega)]
    refine Cd.skip ?_
    refine Cd.seq ?_
    refine Cd.block ?_   -- 1
    refine Cd.seq ?_
    refine Cd.region ?_
    refine Ol.p mvi ?_
    refine Ol.p asi ?_
    refine Ol.nil ?_
    cases hsk : s k with
    | true =>
      have hg : (if k < k then s k && t k else s k) = true := by rw [if_neg (Nat.lt_irrefl k), hsk]
      refine Cd.region ?_
      refine Ol.p mvi ?_
      refine Ol.p mvi ?_
      refine Ol.p (ixl1 (ix := k) ar_ir_set) ?_
      refine Ol.p (ld one_bool (Rd.blk (i := 2) rfl (encV_get hlt))) ?_
      refine Ol.p mvb ?_
      refine Ol.gp hg mvi ?_
      refine Ol.gp hg (ixl1 (ix := k) ar_ir_set) ?_
      refine Ol.gp hg (ld one_bool (Rd.blk (i := 1) rfl (encV_get hlt))) ?_
      refine Ol.p (pkTb hg) ?_
      refine Ol.p (ixl1 (ix := k) ar_ir_set) ?_
      refine Ol.s (sto (k := k) (.inr sz_bool) rfl rfl (i := 2) rfl (by rw [encV_size]; exact hlt) rfl) ?_
      refine Ol.nil ?_
      refine Cd.region ?_
      refine Ol.p addi ?_
      refine Ol.p mvi ?_
      refine Ol.nil ?_
      exact ⟨201 - (k + 1), by omega, k + 1, rfl, by omega, ⟨rfl, rfl, rfl, rfl, trivial⟩, congrArg (fun cs => [blk g4 (.cells Z 145), blk g3 (.cells (encV t) 145), blk g2 (.cells cs 145)]) (hput _ (by rw [hsk]; rfl)).symm⟩
    | false =>
      have hg : (if k < k then s k && t k else s k) = false := by rw [if_neg (Nat.lt_irrefl k), hsk]
      refine Cd.region ?_
      refine Ol.p mvi ?_
      refine Ol.p mvi ?_
      refine Ol.p (ixl1 (ix := k) ar_ir_set) ?_
      refine Ol.p (ld one_bool (Rd.blk (i := 2) rfl (encV_get hlt))) ?_
      refine Ol.p mvb ?_
      refine Ol.gn hg ?_
      refine Ol.gn hg ?_
      refine Ol.gn hg ?_
      refine Ol.p (pkFb hg) ?_
      refine Ol.p (ixl1 (ix := k) ar_ir_set) ?_
      refine Ol.s (sto (k := k) (.inr sz_bool) rfl rfl (i := 2) rfl (by rw [encV_size]; exact hlt) rfl) ?_
      refine Ol.nil ?_
      refine Cd.region ?_
      refine Ol.p addi ?_
      refine Ol.p mvi ?_
      refine Ol.nil ?_
      exact ⟨201 - (k + 1), by omega, k + 1, rfl, by omega, ⟨rfl, rfl, rfl, rfl, trivial⟩, congrArg (fun cs => [blk g4 (.cells Z 145), blk g3 (.cells (encV t) 145), blk g2 (.cells cs 145)]) (hput _ (by rw [hsk]; rfl)).symm⟩
  have hk2 : k = 201 := by
    have : ¬ (k : Int) < 201 := by simpa using h
    omega
  subst hk2
  rw [show (encV fun j => if j < 201 then s j && t j else s j) = encV fun j => s j && t j from encV_congr fun i hi => by rw [if_pos hi], hZ]
  refine Cd.exit (id := 0) ?_
  refine Cd.seq ?_
  refine Cd.region ?_
  refine Ol.p (ldw ag_ir_set (i := 2) rfl (encV_size _)) ?_
  refine Ol.s (stw sz_ir_set (encV_size _) (encV_one _) (i := 0) rfl (encV_size _)) ?_
  refine Ol.nil ?_
  exact Cd.ret ⟨.agg _, retc rfl ag_ir_set rfl (i := 0) rfl (encV_size _), [], .nil, rfl, rfl⟩
end
section
theorem P_ir_set_has_1_ct {w : World} {s : VS} {gs gb n : Nat} (hs : Reads w w.heap.size 1 (some ⟨gs, 0, none⟩) 201 (encV s).toList) (hb : Reads w w.heap.size 1 (some ⟨gb, 0, none⟩) 1 [.pointer (some ⟨gs, 0, none⟩)]) (hn : n < 201) :
    Ct Tryz.prog 160 #[.int .i64 (n : Int), .pointer (some ⟨gb, 0, none⟩)] w (Is (.bool (!s n))) := by
  have hget : (encV s).toList[n]? = some (.bool (s n)) := by rw [Array.getElem?_toList]; exact encV_get hn
  have h1 : Rd w w.heap.size [] ⟨gb, 0, none⟩ (.pointer (some ⟨gs, 0, none⟩)) := by
    have := Rd.slc (w0 := w) (B := w.heap.size) (L := []) (k := 0) hb rfl
    rw [ap_own] at this; exact this
  have h2 : Rd w w.heap.size [] ⟨gs, n, none⟩ (.bool (s n)) := by
    have := Rd.slc (w0 := w) (B := w.heap.size) (L := []) (k := n) hs hget
    rw [ap_own] at this; exact this
  refine Ct.mk Tryz.func160 rfl rfl ?_
  refine Cd.seq ?_
  refine Cd.region ?_
  refine Ol.p asb ?_
  refine Ol.nil ?_
  refine Cd.seq ?_
  refine Cd.region ?_
  refine Ol.p (ld one_P_ir_set h1) ?_
  refine Ol.p mvi ?_
  refine Ol.p nlc ?_
  refine Ol.p (ixl1 (ix := n) ar_ir_set) ?_
  refine Ol.p (ld one_bool h2) ?_
  refine Ol.p noti ?_
  refine Ol.p asb ?_
  refine Ol.nil ?_
  exact Cd.ret ⟨.bool _, ret1 rfl rfl, [], .nil, rfl, rfl⟩
theorem has_tells {w : World} {s : VS} {gs gb : Nat} {l : List Int} (hs : Reads w w.heap.size 1 (some ⟨gs, 0, none⟩) 201 (encV s).toList) (hb : Reads w w.heap.size 1 (some ⟨gb, 0, none⟩) 1 [.pointer (some ⟨gs, 0, none⟩)]) (hr : ∀ n ∈ l, 0 ≤ n ∧ n ≤ 200) :
    TellsI Tryz.prog w 160 #[] #[.pointer (some ⟨gb, 0, none⟩)] l fun n => !s n.toNat := ⟨en_P_ir_set_has_1, fun n hn w2 h2 => by
  obtain ⟨m, rfl⟩ : ∃ m : Nat, n = (m : Int) := ⟨n.toNat, by have := hr n hn; omega⟩
  exact P_ir_set_has_1_ct ((hs.below h2).more h2.size) ((hb.below h2).more h2.size) (by have := hr _ hn; omega)⟩
theorem P_ir_set_has_ct {w : World} {s : VS} {gs c : Nat} {A : Option Addr} {l : List Int} (hs : Reads w w.heap.size 1 (some ⟨gs, 0, none⟩) 201 (encV s).toList) (hl : Reads w w.heap.size 1 A l.length (ints l)) (hb : l.length < 2 ^ 62) (hr : ∀ n ∈ l, 0 ≤ n ∧ n ≤ 200) :
    Ct Tryz.prog 156 #[.pointer (some ⟨gs, 0, none⟩), .slice A l.length c] w (Is (.bool (hasV s l))) := by
  refine Ct.mk Tryz.func156 rfl rfl ?_
  refine Cd.seq ?_
  refine Cd.region ?_
  refine Ol.x bxp ?_
  rintro _ _ ⟨g2, rfl, rfl⟩
  refine Ol.p asb ?_
  refine Ol.nil ?_
  refine Cd.seq ?_
  refine Cd.region ?_
  refine Ol.p mvs ?_
  refine Ol.p mkf ?_
  refine Ol.s (cl en_slices_ContainsFunc_L_int_int (fun M w' hh => slices_ContainsFunc_L_int_int_ct (g := 160) (fst := #[]) (cap := #[.pointer (some ⟨g2, 0, none⟩)]) (p := fun n => !s n.toNat) (hl.now hh) hb (has_tells (hs.now hh) (Reads.blk hh (i := 0) rfl rfl (fun j u hu => by simpa using hu)) hr))) ?_
  refine Ol.p noti ?_
  refine Ol.p asb ?_
  refine Ol.nil ?_
  refine Cd.ret ⟨.bool _, ret1 rfl rfl, [], .nil, ?_, rfl⟩
  unfold hasV
  rw [List.not_any_eq_all_not]
  simp
end
end Go.Proofs.YtjenaenakopicaaGreat

/- What is reached from some blocks through open ones: plain Lean. -/
namespace Go.Proofs.YtjenaenakopicaaGreat
set_option linter.unusedVariables false
open Go Go.RowKit

def toAt (ts : List Tm) (b : Nat) : List Int := match ts[b]? with
  | some t => toL t
  | none => []
theorem toAt_some {ts : List Tm} {b : Nat} {t : Tm} (h : ts[b]? = some t) : toAt ts b = toL t := by unfold toAt; rw [h]
def nextL (ts : List Tm) (s : Nat) (l : List Nat) : Nat := l.foldl (fun s b => withL s (toAt ts b)) s
def stepS (ts : List Tm) (op s : Nat) : Nat := nextL ts s (listS s) &&& op
def iterF {α : Type} (f : α → α) : Nat → α → α
  | 0, a => a
  | n + 1, a => f (iterF f n a)
def reachS (ts : List Tm) (op s : Nat) : Nat := iterF (stepS ts op) 1025 s
def Sub (s t : Nat) : Prop := ∀ i, s.testBit i = true → t.testBit i = true
theorem upto_len_mono {s t : Nat} (h : Sub s t) : ∀ n, (upto s n).length ≤ (upto t n).length
  | 0 => by simp [upto_zero]
  | n + 1 => by
    have ih := upto_len_mono h n
    rw [upto_succ, upto_succ, List.length_append, List.length_append]
    cases hs : s.testBit n with
    | false => simp; omega
    | true => rw [h n hs]; simp; omega
theorem upto_len_lt {s t i : Nat} (h : Sub s t) (h1 : s.testBit i = false) (h2 : t.testBit i = true) : ∀ n, i < n → (upto s n).length < (upto t n).length
  | 0, hn => by omega
  | n + 1, hn => by
    rw [upto_succ, upto_succ, List.length_append, List.length_append]
    by_cases he : i = n
    · subst he
      rw [h1, h2]
      have := upto_len_mono h i
      simp; omega
    · have ih := upto_len_lt h h1 h2 n (by omega)
      cases hs : s.testBit n with
      | false => simp; omega
      | true => rw [h n hs]; simp; omega
/-- The blocks, all of them. -/
def allS (n : Nat) : Nat := (List.range n).foldl (fun s (b : Nat) => withL s [(b : Int)]) 0
/-- What Reached tells. -/
def reachedF (ts : List Tm) (fr nt : List Int) : List Nat := bif closed ts then listS (reachS ts (lessL (allS ts.length) nt) (lessL (allS ts.length) nt &&& ofL fr)) else []
end Go.Proofs.YtjenaenakopicaaGreat

/- Blocks of one's own behind a slice; the order of a walk in depth. -/
namespace Go.Proofs.YtjenaenakopicaaGreat
set_option linter.unusedVariables false
open Go Go.RowKit

/-- A row of one's own is a block. -/
theorem Hp.unrow {w0 w : World} {B g n c e s : Nat} {M L : List Res} {xs : List Value} (h : Hp w0 B (M ++ (row (.slice (some ⟨g, 0, none⟩) n c) e s n xs :: L)) w) : ∃ cs : Array Value, cs.size = c * s ∧ cs.toList.take (n * s) = xs ∧ Hp w0 B (M ++ (blk g (.cells cs e) :: L)) w := by
  have hr : w.ownsRow 0 e s (.slice (some ⟨g, 0, none⟩) n c) n xs := h.has (row (.slice (some ⟨g, 0, none⟩) n c) e s n xs) (by simp)
  rcases hr.2 with ⟨h1, _⟩ | ⟨g', cap, cur, hv, _, hg, _, _, hs, ht⟩
  · cases h1
  · injection hv with h1 _ h3
    cases h1
    subst h3
    refine ⟨cur, hs, ht, ?_⟩
    exact Hp.set0 (r := row (.slice (some ⟨g, 0, none⟩) n c) e s n xs) (r' := blk g (.cells cur e)) h (Stp.refl _ _) hg (fun k hk => by
      have : k = g := hk
      subst this
      simp [row, Value.ownBlock])
theorem Cd.unrow {C : Ctx} {x : Code} {Q : Exit → Env → List Res → Prop} {σ : Env} {L : List Res} {g n c e s : Nat} {xs : List Value} (h : ∀ cs : Array Value, cs.size = c * s → cs.toList.take (n * s) = xs → Cd C x Q σ (blk g (.cells cs e) :: L)) : Cd C x Q σ (row (.slice (some ⟨g, 0, none⟩) n c) e s n xs :: L) := fun a w ha hs => by
  obtain ⟨cs, h1, h2, h3⟩ := Hp.unrow hs.heap
  exact h cs h1 h2 a w ha ⟨hs.size, h3⟩
section
variable {P : Program} {w0 : World} {B : Nat} {σ : Env} {L : List Res} {d : Option Nat} {ty T : TypeId} {pos : String} {af : Array Edge} {gd : Option (Nat × Bool)} {x y z : Operand} {v : Value}
/-- An element of a slice that lies in a block that is known. -/
theorem ixo {k : IntKind} {ix n c e s b g off : Nat} (hT : SlT P T e s b) (hx : ev σ x = .slice (some ⟨g, off, none⟩) n c := by exact rfl) (hy : ev σ y = .int k (ix : Int) := by exact rfl) (h : ix < n := by omega) :
    Sd P w0 B ⟨d, .indexAddr T x y, ty, pos, af, gd⟩ σ L (.pointer (some ⟨g, off + ix * s, none⟩)) := by
  have := ixn (d := d) (ty := ty) (pos := pos) (af := af) (gd := gd) (P := P) (w0 := w0) (B := B) (L := L) hT Som.lit hx hy h
  have e1 : ap (some (⟨g, off, none⟩ : Addr)) (ix * s) = ⟨g, off + ix * s, none⟩ := by simp [ap, add_lit_]
  rwa [e1] at this
end
/-- What can be read of a slice, whoever is called, while L is held. -/
def RdS (w0 : World) (B : Nat) (L : List Res) (s : Nat) (A : Option Addr) (n : Nat) (xs : List Value) : Prop := ∀ M w, Hp w0 B (M ++ L) w → Reads w w.heap.size s A n xs
section
variable {w0 : World} {B s n c i : Nat} {L L' : List Res} {A : Option Addr} {xs : List Value}
theorem RdS.row {e : TypeId} (hi : L[i]? = some (row (.slice A n c) e s n xs)) : RdS w0 B L s A n xs := fun M w hh => Reads.row hh hi
theorem RdS.keep (h : RdS w0 B L s A n xs) (hk : Keep L' L) : RdS w0 B L' s A n xs := fun M w hh => h M w (hk.hp hh)
theorem RdS.nil : RdS w0 B L s A 0 [] := fun M w hh => ⟨by simp, fun h => by omega⟩
theorem Rd.rds {k : Nat} {v : Value} (h : RdS w0 B L s A n xs) (hk : xs[k]? = some v) : Rd w0 B L (ap A k) v := fun M w hh => by
  have hr := h M w hh
  have hn : 0 < n := by
    rcases Nat.eq_zero_or_pos n with h0 | h0
    · have hl := hr.1
      rw [h0, Nat.zero_mul] at hl
      rw [List.eq_nil_of_length_eq_zero hl] at hk
      simp at hk
    · exact h0
  obtain ⟨ad, rfl, _, hc⟩ := hr.2 hn
  exact hc k v hk
theorem Som.rds (h : RdS w0 B L s A n xs) (hn : 0 < n) : Som w0 B L A := fun M w hh => by
  obtain ⟨ad, rfl, _⟩ := (h M w hh).2 hn; rfl
end
/-- A slice that is handed over: in a block, from some place on; or empty. -/
def PartL (e n : Nat) (xs : List Value) : Value → List Res → Prop := fun v L => (n = 0 ∧ xs = [] ∧ v = .slice none 0 0 ∧ L = []) ∨ ∃ g k c cs, v = .slice (some ⟨g, k, none⟩) n c ∧ L = [blk g (.cells cs e)] ∧ xs.length = n ∧ ∀ j u, xs[j]? = some u → cs[k + j]? = some u
theorem made_ints (n : Nat) : (madeCells #[.int .i64 0] (n * 1)).toList.take (n * 1) = List.replicate n (.int .i64 0) := by
  rw [Nat.mul_one, List.take_of_length_le (by simp [madeCells])]
  apply List.ext_getElem?
  intro i
  by_cases h : i < n
  · simp [madeCells, h]
    rw [Nat.mod_one]; rfl
  · simp [madeCells, h]

/-! ### A walk in depth -/
abbrev Dst := Nat × List Nat
def dfs (ts : List Tm) : Nat → Nat → Dst → Dst
  | 0, _, st => st
  | n + 1, b, st => bif st.1.testBit b then st else
    let r := (toAt ts b).foldl (fun st t => dfs ts n t.toNat st) (withL st.1 [(b : Int)], st.2)
    (r.1, b :: r.2)
def orderF (ts : List Tm) : List Nat := bif closed ts then (dfs ts (ts.length + 1) 0 (0, [])).2 else []
def card (s n : Nat) : Nat := (upto s n).length
theorem card_le (s n : Nat) : card s n ≤ n := upto_len_le s n
theorem testBit_with1 (s b i : Nat) (hb : b < 1024) : (withL s [(b : Int)]).testBit i = (s.testBit i || decide (i = b)) := by
  rw [testBit_withL]
  by_cases h : i = b
  · subst h
    have : okN (i : Int) = true := by rw [okN_iff]; omega
    simp [this]
  · have h1 : ([(b : Int)].contains (i : Int)) = false := by simp; omega
    rw [h1]; simp [h]
theorem sub_with1 (s b : Nat) : Sub s (withL s [(b : Int)]) := fun i hi => by rw [testBit_withL, hi]; rfl
theorem card_with1 {s b n : Nat} (hb : b < n) (hn : n ≤ 1024) (h : s.testBit b = false) : card s n < card (withL s [(b : Int)]) n :=
  upto_len_lt (sub_with1 s b) h (by rw [testBit_with1 s b b (by omega)]; simp) n hb
theorem card_mono {s t n : Nat} (h : Sub s t) : card s n ≤ card t n := upto_len_mono h n
def outC (n : Nat) (acc : List Nat) : Array Value := (List.replicate (n - acc.length) (Value.int .i64 0) ++ intsN acc).toArray
end Go.Proofs.YtjenaenakopicaaGreat

/- Reaching and the order of blocks: plain laws. -/
namespace Go.Proofs.YtjenaenakopicaaGreat
set_option linter.unusedVariables false
set_option maxRecDepth 10000
open Go Go.RowKit

/-- A way from a to b. -/
inductive Rc (ts : List Tm) (a : Nat) : Nat → Prop
  | refl : Rc ts a a
  | step {b c : Nat} : Rc ts a b → (c : Int) ∈ toAt ts b → Rc ts a c
theorem Rc.trans {ts : List Tm} {a b c : Nat} (h : Rc ts a b) (k : Rc ts b c) : Rc ts a c := by
  induction k with
  | refl => exact h
  | step _ h2 ih => exact .step ih h2
theorem Rc.one {ts : List Tm} {a b : Nat} (h : (b : Int) ∈ toAt ts a) : Rc ts a b := .step .refl h
theorem toAt_lt {ts : List Tm} (hc : closed ts = true) {b : Nat} {t : Int} (h : t ∈ toAt ts b) : 0 ≤ t ∧ t < ts.length ∧ b < ts.length := by
  unfold toAt at h
  split at h
  · rename_i u hu
    obtain ⟨j, hj⟩ := List.mem_iff_getElem?.1 h
    have hm : (⟨(b : Int), (j : Int), t⟩ : Ed) ∈ edges ts := mem_edges.2 ⟨b, j, u, hu, hj, rfl, rfl⟩
    unfold closed at hc
    simp only [Bool.and_eq_true, decide_eq_true_eq, List.all_eq_true] at hc
    have := hc.1.1 _ hm
    exact ⟨this.1, this.2, (List.getElem?_eq_some_iff.1 hu).1⟩
  · cases h
theorem closed_le {ts : List Tm} (hc : closed ts = true) : 0 < ts.length ∧ ts.length ≤ 200 := by
  unfold closed at hc
  simp only [Bool.and_eq_true, decide_eq_true_eq] at hc
  exact ⟨hc.1.2, hc.2⟩
/-! ### The walk in depth -/
def After (l : List Nat) (x y : Nat) : Prop := ∃ p q, l = p ++ x :: q ∧ y ∈ q
theorem After.more {l : List Nat} {x y : Nat} (h : After l x y) (r : List Nat) : After (r ++ l) x y := by
  obtain ⟨p, q, rfl, hy⟩ := h
  exact ⟨r ++ p, q, by simp, hy⟩
structure DPre (ts : List Tm) (b : Nat) (st : Dst) : Prop where
  sm : Sm st.1
  acc : ∀ y ∈ st.2, st.1.testBit y = true
  nd : st.2.Nodup
  gray : ∀ y, st.1.testBit y = true → y ∈ st.2 ∨ Rc ts y b
structure DPost (ts : List Tm) (b : Nat) (st : Dst) (r : Dst) (nl : List Nat) : Prop where
  eq : r.2 = nl ++ st.2
  seen : ∀ i, r.1.testBit i = true ↔ st.1.testBit i = true ∨ i ∈ nl
  sm : Sm r.1
  nd : (nl ++ st.2).Nodup
  new : ∀ x ∈ nl, Rc ts b x ∧ st.1.testBit x = false ∧ x < ts.length
  next : ∀ x ∈ nl, ∀ y : Nat, (y : Int) ∈ toAt ts x → r.1.testBit y = true ∧ (After (nl ++ st.2) x y ∨ Rc ts y x)
theorem fold_spec {ts : List Tm} (hc : closed ts = true) {fuel b : Nat} (ih : ∀ (b : Nat) (st : Dst), b < ts.length → ts.length - card st.1 ts.length < fuel → DPre ts b st → ∃ new, DPost ts b st (dfs ts fuel b st) new ∧ (dfs ts fuel b st).1.testBit b = true) :
    ∀ (l : List Int) (st : Dst), (∀ t ∈ l, t ∈ toAt ts b) → ts.length - card st.1 ts.length < fuel → DPre ts b st → ∃ new, DPost ts b st (l.foldl (fun st t => dfs ts fuel t.toNat st) st) new ∧ ∀ t : Nat, (t : Int) ∈ l → (l.foldl (fun st t => dfs ts fuel t.toNat st) st).1.testBit t = true
  | [], st, _, _, h => ⟨[], ⟨rfl, fun i => by simp, h.sm, h.nd, fun x h => (by cases h), fun x h => (by cases h)⟩, fun t h => (by cases h)⟩
  | t :: l, st, hl, hf, h => by
    have htm := hl t (by simp)
    have htl := toAt_lt hc htm
    have hcast : ((t.toNat : Nat) : Int) = t := by omega
    obtain ⟨n1, p1, q1⟩ := ih t.toNat st (by omega) hf ⟨h.sm, h.acc, h.nd, fun y hy => (h.gray y hy).imp id fun hr => .step hr (by rw [hcast]; exact htm)⟩
    obtain ⟨st1, hst1⟩ : ∃ st1, st1 = dfs ts fuel t.toNat st := ⟨_, rfl⟩
    rw [← hst1] at p1 q1
    have hmono : card st.1 ts.length ≤ card st1.1 ts.length := card_mono fun i hi => (p1.seen i).2 (.inl hi)
    obtain ⟨n2, p2, q2⟩ := fold_spec hc ih l st1 (fun t ht => hl t (by simp [ht])) (by omega)
      ⟨p1.sm, fun y hy => by
        rw [p1.eq, List.mem_append] at hy
        exact (p1.seen y).2 (hy.elim .inr fun h2 => .inl (h.acc y h2)), by rw [p1.eq]; exact p1.nd, fun y hy => by
        rw [p1.eq, List.mem_append]
        rcases (p1.seen y).1 hy with h2 | h2
        · rcases h.gray y h2 with h3 | h3
          · exact .inl (.inr h3)
          · exact .inr h3
        · exact .inl (.inl h2)⟩
    have e : (t :: l).foldl (fun st t => dfs ts fuel t.toNat st) st = l.foldl (fun st t => dfs ts fuel t.toNat st) st1 := by rw [hst1]; rfl
    rw [e]
    have eq2 : n2 ++ st1.2 = n2 ++ n1 ++ st.2 := by rw [p1.eq]; simp
    refine ⟨n2 ++ n1, ⟨by rw [p2.eq, eq2], fun i => by rw [p2.seen, p1.seen, List.mem_append]; exact ⟨fun h => by rcases h with (h | h) | h <;> simp [h], fun h => by rcases h with h | h | h <;> simp [h]⟩, p2.sm, by rw [← eq2]; exact p2.nd, fun x hx => ?_, fun x hx y hy => ?_⟩, fun u hu => ?_⟩
    · rcases List.mem_append.1 hx with hx | hx
      · obtain ⟨h1, h2, h3⟩ := p2.new x hx
        refine ⟨h1, ?_, h3⟩
        cases h4 : st.1.testBit x with
        | false => rfl
        | true => rw [(p1.seen x).2 (.inl h4)] at h2; cases h2
      · obtain ⟨h1, h2, h3⟩ := p1.new x hx
        exact ⟨(Rc.one (by rw [hcast]; exact htm)).trans h1, h2, h3⟩
    · rw [← eq2]
      rcases List.mem_append.1 hx with hx | hx
      · exact p2.next x hx y hy
      · obtain ⟨h1, h2⟩ := p1.next x hx y hy
        refine ⟨(p2.seen y).2 (.inl h1), h2.imp (fun h3 => ?_) id⟩
        rw [p1.eq]; exact h3.more n2
    · rcases List.mem_cons.1 hu with hu | hu
      · subst hu
        exact (p2.seen u).2 (.inl (by simpa using q1))
      · exact q2 u hu
theorem dfs_spec {ts : List Tm} (hc : closed ts = true) : ∀ (fuel b : Nat) (st : Dst), b < ts.length → ts.length - card st.1 ts.length < fuel → DPre ts b st → ∃ new, DPost ts b st (dfs ts fuel b st) new ∧ (dfs ts fuel b st).1.testBit b = true := by
  intro fuel
  induction fuel with
  | zero => intro b st _ h; omega
  | succ fuel ih =>
    intro b st hb hf h
    have hl := (closed_le hc).2
    cases hs : st.1.testBit b with
    | true =>
      have e : dfs ts (fuel + 1) b st = st := by simp only [dfs, hs, cond_true]
      rw [e]
      exact ⟨[], ⟨rfl, fun i => by simp, h.sm, h.nd, fun x h => (by cases h), fun x h => (by cases h)⟩, hs⟩
    | false =>
      obtain ⟨s1, hs1⟩ : ∃ s1, s1 = withL st.1 [(b : Int)] := ⟨_, rfl⟩
      have hbit : ∀ i, s1.testBit i = true ↔ st.1.testBit i = true ∨ i = b := fun i => by rw [hs1, testBit_with1 _ _ _ (by omega)]; simp
      have hgrow : card st.1 ts.length < card s1 ts.length := by rw [hs1]; exact card_with1 hb (by omega) hs
      have hcl := card_le s1 ts.length
      obtain ⟨nw, p, q⟩ := fold_spec hc (b := b) ih (toAt ts b) (s1, st.2) (fun t h => h) (by show ts.length - card s1 ts.length < fuel; omega)
        ⟨by rw [hs1]; exact withL_sm h.sm, fun y hy => (hbit y).2 (.inl (h.acc y hy)), h.nd, fun y hy => by
          rcases (hbit y).1 hy with h1 | rfl
          · exact h.gray y h1
          · exact .inr .refl⟩
      obtain ⟨r, hr⟩ : ∃ r, r = (toAt ts b).foldl (fun st t => dfs ts fuel t.toNat st) (s1, st.2) := ⟨_, rfl⟩
      have e : dfs ts (fuel + 1) b st = (r.1, b :: r.2) := by simp only [dfs, hs, cond_false, hr, hs1]
      rw [← hr] at p q
      rw [e]
      have hbs : r.1.testBit b = true := (p.seen b).2 (.inl ((hbit b).2 (.inr rfl)))
      have hbn : b ∉ nw := fun hm => by
        have := (p.new b hm).2.1
        rw [(hbit b).2 (.inr rfl)] at this; cases this
      have hba : b ∉ st.2 := fun hm => by rw [h.acc b hm] at hs; cases hs
      refine ⟨b :: nw, ⟨by rw [p.eq]; rfl, fun i => by
        rw [p.seen, hbit, List.mem_cons]
        exact or_assoc, p.sm, by
        rw [List.cons_append, List.nodup_cons, List.mem_append]
        exact ⟨fun h => h.elim hbn hba, p.nd⟩, fun x hx => ?_, fun x hx y hy => ?_⟩, hbs⟩
      · rcases List.mem_cons.1 hx with rfl | hx
        · exact ⟨.refl, hs, hb⟩
        · obtain ⟨h1, h2, h3⟩ := p.new x hx
          refine ⟨h1, ?_, h3⟩
          cases h4 : st.1.testBit x with
          | false => rfl
          | true => rw [(hbit x).2 (.inl h4)] at h2; cases h2
      · rcases List.mem_cons.1 hx with rfl | hx
        · have hy1 := q y hy
          refine ⟨hy1, ?_⟩
          rcases (p.seen y).1 hy1 with h1 | h1
          · rcases (hbit y).1 h1 with h2 | rfl
            · rcases h.gray y h2 with h3 | h3
              · exact .inl ⟨[], nw ++ st.2, rfl, List.mem_append_right _ h3⟩
              · exact .inr h3
            · exact .inr .refl
          · exact .inl ⟨[], nw ++ st.2, rfl, List.mem_append_left _ h1⟩
        · obtain ⟨h1, h2⟩ := p.next x hx y hy
          exact ⟨h1, h2.imp (fun h3 => h3.more [b]) id⟩

theorem nodup_le : ∀ (l m : List Nat), l.Nodup → (∀ x ∈ l, x ∈ m) → l.length ≤ m.length
  | [], m, _, _ => Nat.zero_le _
  | x :: l, m, hn, h => by
    rw [List.nodup_cons] at hn
    have hx := h x (by simp)
    have := nodup_le l (m.erase x) hn.2 fun y hy => (List.mem_erase_of_ne (fun e => hn.1 (by subst e; exact hy))).2 (h y (by simp [hy]))
    rw [List.length_erase_of_mem hx] at this
    have : 0 < m.length := List.length_pos_of_mem hx
    simp only [List.length_cons]
    omega
theorem order_spec {ts : List Tm} (hc : closed ts = true) : ∃ r nw, r = dfs ts (ts.length + 1) 0 (0, []) ∧ orderF ts = nw ∧ DPost ts 0 (0, []) r nw ∧ r.1.testBit 0 = true := by
  obtain ⟨nw, p, q⟩ := dfs_spec hc (ts.length + 1) 0 (0, []) (closed_le hc).1 (by omega) ⟨fun n _ => by simp, fun y h => (by cases h), List.nodup_nil, fun y h => by simp at h⟩
  refine ⟨_, nw, rfl, ?_, p, q⟩
  unfold orderF
  rw [hc, cond_true, p.eq]
  simp
theorem order_nodup {ts : List Tm} (hc : closed ts = true) : (orderF ts).Nodup := by
  obtain ⟨r, nw, _, e, p, _⟩ := order_spec hc
  rw [e]; simpa using p.nd
theorem order_edge {ts : List Tm} (hc : closed ts = true) {a y : Nat} (ha : a ∈ orderF ts) (hy : (y : Int) ∈ toAt ts a) : y ∈ orderF ts ∧ (After (orderF ts) a y ∨ Rc ts y a) := by
  obtain ⟨r, nw, _, e, p, _⟩ := order_spec hc
  rw [e] at ha ⊢
  obtain ⟨h1, h2⟩ := p.next a ha y hy
  exact ⟨by simpa using (p.seen y).1 h1, by simpa using h2⟩
theorem order_mem {ts : List Tm} (hc : closed ts = true) (i : Nat) : i ∈ orderF ts ↔ Rc ts 0 i := by
  obtain ⟨r, nw, _, e, p, q⟩ := order_spec hc
  constructor
  · intro h
    rw [e] at h
    exact (p.new i h).1
  · intro h
    induction h with
    | refl => rw [e]; simpa using (p.seen 0).1 q
    | step _ h2 ih => exact (order_edge hc ih h2).1
/-! places -/
def placeI (l : List Int) (n : Int) : Int := match l.findIdx? (fun x => decide (x = n)) with
  | some i => (i : Int)
  | none => -1
end Go.Proofs.YtjenaenakopicaaGreat

/- Plain laws behind ir.Right: edges that go to blocks, a search that reaches what can be reached. -/
namespace Go.Proofs.YtjenaenakopicaaGreat
set_option linter.unusedVariables false
open Go Go.RowKit

/-- All edges go to blocks, none to the first. -/
def okEs (ts : List Tm) : Bool := ts.all fun t => (toL t).all fun n => decide (1 ≤ n) && decide (n < (ts.length : Int))
theorem okEs_at {ts : List Tm} (h : okEs ts = true) {a : Nat} {n : Int} (hn : n ∈ toAt ts a) : 1 ≤ n ∧ n < ts.length := by
  unfold toAt at hn
  cases ht : ts[a]? with
  | none => rw [ht] at hn; cases hn
  | some t =>
    rw [ht] at hn
    unfold okEs at h
    rw [List.all_eq_true] at h
    have h1 := h t (List.mem_of_getElem? ht)
    rw [List.all_eq_true] at h1
    have h2 := h1 n hn
    simpa using h2
theorem okEs_closed {ts : List Tm} (h : okEs ts = true) (h0 : 0 < ts.length) (h2 : ts.length ≤ 200) : closed ts = true := by
  unfold closed
  rw [Bool.and_eq_true, Bool.and_eq_true, decide_eq_true_iff, decide_eq_true_iff]
  refine ⟨⟨?_, h0⟩, h2⟩
  rw [List.all_eq_true]
  intro e he
  obtain ⟨k, j, t, hk, hj, h3, h4⟩ := mem_edges.1 he
  have := okEs_at h (a := k) (n := e.to) (by rw [toAt_some hk]; exact List.mem_of_getElem? hj)
  simp; omega
def setB (S : Nat → Bool) (x : Nat) : Nat → Bool := fun i => if i = x then true else S i
def cntB (n : Nat) (S : Nat → Bool) : Nat := ((List.range n).filter S).length
theorem cntB_le (n : Nat) (S : Nat → Bool) : cntB n S ≤ n := by
  unfold cntB
  have := List.length_filter_le S (List.range n)
  simpa using this
theorem cntB_congr {n : Nat} {S T : Nat → Bool} (h : ∀ i, i < n → S i = T i) : cntB n S = cntB n T := by
  unfold cntB
  rw [List.filter_congr]
  intro i hi
  exact h i (by simpa using hi)
theorem cntB_set {S : Nat → Bool} {x : Nat} : ∀ {n : Nat}, x < n → S x = false → cntB n (setB S x) = cntB n S + 1
  | 0, h, _ => by omega
  | n + 1, h, h0 => by
    have hs : ∀ (T : Nat → Bool), cntB (n + 1) T = cntB n T + (if T n then 1 else 0) := fun T => by
      unfold cntB
      rw [List.range_succ, List.filter_append, List.length_append]
      cases hT : T n <;> simp [hT]
    rw [hs, hs]
    by_cases e : x = n
    · subst e
      have h1 : cntB x (setB S x) = cntB x S := cntB_congr fun i hi => by unfold setB; rw [if_neg (by omega)]
      have h2 : setB S x x = true := by unfold setB; rw [if_pos rfl]
      rw [h1, h2, h0]; rfl
    · have h1 := cntB_set (S := S) (x := x) (n := n) (by omega) h0
      have h2 : setB S x n = S n := by unfold setB; rw [if_neg (fun e2 => e e2.symm)]
      rw [h1, h2]; omega
/-- A search by a queue: what has been seen, what is to do. -/
structure Bfs (ts : List Tm) (S : Nat → Bool) (todo : List Nat) : Prop where
  s : ∀ i, S i = true → i < ts.length ∧ Rc ts 0 i
  t : ∀ i ∈ todo, i < ts.length ∧ Rc ts 0 i
  z : S 0 = true ∨ 0 ∈ todo
  e : ∀ a, S a = true → ∀ b : Nat, (b : Int) ∈ toAt ts a → S b = true ∨ b ∈ todo
theorem Bfs.start {ts : List Tm} (h : 0 < ts.length) : Bfs ts (fun _ => false) [0] := by
  refine ⟨fun i h => (by cases h), fun i hi => ?_, .inr (by simp), fun a h => (by cases h)⟩
  have : i = 0 := by simpa using hi
  subst this
  exact ⟨h, .refl⟩
theorem Bfs.pop {ts : List Tm} {S : Nat → Bool} {x : Nat} {l : List Nat} (h : Bfs ts S (x :: l)) (hx : S x = true) : Bfs ts S l := by
  refine ⟨h.s, fun i hi => h.t i (by simp [hi]), ?_, fun a ha b hb => ?_⟩
  · rcases h.z with h1 | h1
    · exact .inl h1
    · rcases List.mem_cons.1 h1 with rfl | h1
      · exact .inl hx
      · exact .inr h1
  · rcases h.e a ha b hb with h1 | h1
    · exact .inl h1
    · rcases List.mem_cons.1 h1 with rfl | h1
      · exact .inl hx
      · exact .inr h1
theorem Bfs.see {ts : List Tm} {S : Nat → Bool} {x : Nat} {l m : List Nat} (h : Bfs ts S (x :: l)) (hm : ∀ b : Nat, b ∈ m ↔ (b : Int) ∈ toAt ts x) (hlt : ∀ b ∈ m, b < ts.length) : Bfs ts (setB S x) (l ++ m) := by
  obtain ⟨hxl, hxr⟩ := h.t x (by simp)
  have hset : ∀ i, setB S x i = true ↔ i = x ∨ S i = true := fun i => by
    unfold setB
    by_cases e : i = x <;> simp [e]
  refine ⟨fun i hi => ?_, fun i hi => ?_, ?_, fun a ha b hb => ?_⟩
  · rcases (hset i).1 hi with rfl | h1
    · exact ⟨hxl, hxr⟩
    · exact h.s i h1
  · rcases List.mem_append.1 hi with h1 | h1
    · exact h.t i (by simp [h1])
    · exact ⟨hlt i h1, .step hxr ((hm i).1 h1)⟩
  · rcases h.z with h1 | h1
    · exact .inl ((hset 0).2 (.inr h1))
    · rcases List.mem_cons.1 h1 with h1 | h1
      · exact .inl ((hset 0).2 (.inl h1))
      · exact .inr (by simp [h1])
  · rcases (hset a).1 ha with rfl | h1
    · exact .inr (by simp [(hm b).2 hb])
    · rcases h.e a h1 b hb with h2 | h2
      · exact .inl ((hset b).2 (.inr h2))
      · rcases List.mem_cons.1 h2 with h2 | h2
        · exact .inl ((hset b).2 (.inl h2))
        · exact .inr (by simp [h2])
theorem Bfs.fin {ts : List Tm} {S : Nat → Bool} (h : Bfs ts S []) (hc : closed ts = true) : cntB ts.length S = (orderF ts).length := by
  have hS : ∀ i, S i = true ↔ i ∈ orderF ts := fun i => by
    rw [order_mem hc]
    constructor
    · exact fun hi => (h.s i hi).2
    · intro hi
      induction hi with
      | refl => rcases h.z with h1 | h1; exact h1; cases h1
      | step _ hb ih =>
        rcases h.e _ ih _ hb with h1 | h1
        · exact h1
        · cases h1
  apply Nat.le_antisymm
  · refine nodup_le _ _ (List.Pairwise.filter _ List.nodup_range) fun x hx => ?_
    rw [List.mem_filter] at hx
    exact (hS x).1 hx.2
  · refine nodup_le _ _ (order_nodup hc) fun x hx => ?_
    rw [List.mem_filter]
    have := (hS x).2 hx
    exact ⟨by simpa using (h.s x this).1, this⟩
def boolsL (n : Nat) (S : Nat → Bool) : List Value := (List.range n).map fun i => .bool (S i)
theorem boolsL_len (n : Nat) (S : Nat → Bool) : (boolsL n S).length = n := by simp [boolsL]
theorem boolsL_get {n i : Nat} {S : Nat → Bool} (h : i < n) : (boolsL n S)[i]? = some (.bool (S i)) := by simp [boolsL, h]
theorem boolsL_set {n x : Nat} {S : Nat → Bool} : (boolsL n S).set x (.bool true) = boolsL n (setB S x) := by
  apply List.ext_getElem?
  intro i
  rw [List.getElem?_set]
  unfold setB
  by_cases hi : i < n
  · by_cases e : x = i
    · subst e; simp [boolsL, hi]
    · rw [if_neg e, boolsL_get hi, boolsL_get hi, if_neg (fun e2 => e e2.symm)]
  · have h1 : (boolsL n S)[i]? = none := List.getElem?_eq_none (by rw [boolsL_len]; omega)
    have h2 : (boolsL n fun j => if j = x then true else S j)[i]? = none := List.getElem?_eq_none (by rw [boolsL_len]; omega)
    rw [h1, h2]
    split
    · split
      · rename_i h3; rw [boolsL_len] at h3; omega
      · rfl
    · rfl
theorem made_bools (n : Nat) : (madeCells #[.bool false] (n * 1)).toList.take (n * 1) = boolsL n fun _ => false := by
  rw [Nat.mul_one, List.take_of_length_le (by simp [madeCells])]
  apply List.ext_getElem?
  intro i
  by_cases h : i < n
  · simp [madeCells, boolsL, h]
    rw [Nat.mod_one]; rfl
  · simp [madeCells, boolsL, h]
/-- Where an end may go, as naturals. -/
def toN (t : Tm) : List Nat := (toL t).map Int.toNat
theorem toN_ints {t : Tm} (h : ∀ n ∈ toL t, 0 ≤ n) : ints (toL t) = (toN t).map fun n : Nat => .int .i64 (n : Int) := by
  unfold ints toN
  rw [List.map_map]
  apply List.map_congr_left
  intro n hn
  have := h n hn
  simp; omega
theorem mem_toN {t : Tm} (h : ∀ n ∈ toL t, 0 ≤ n) (b : Nat) : b ∈ toN t ↔ (b : Int) ∈ toL t := by
  unfold toN
  rw [List.mem_map]
  constructor
  · rintro ⟨n, hn, rfl⟩
    have := h n hn
    rw [show ((n.toNat : Nat) : Int) = n by omega]; exact hn
  · exact fun hb => ⟨_, hb, by simp⟩
end Go.Proofs.YtjenaenakopicaaGreat

/- A region whose order is drawn, in which an operation may take what another one made, or what was there (tokens), and turn it: one walk serves every order. -/
namespace Go.Proofs.YtjenaenakopicaaGreat
set_option linter.unusedVariables false
open Go Go.RowKit

def liveT (tk : Nat → Option Nat) (E : List Nat) : List Nat := E.filter fun c => !(E.any fun k => decide (tk k = some c))
theorem mem_liveT {tk : Nat → Option Nat} {E : List Nat} {c : Nat} : c ∈ liveT tk E ↔ c ∈ E ∧ ∀ k ∈ E, tk k ≠ some c := by
  unfold liveT
  simp [List.mem_filter]
def WkT (C : Ctx) (all : Array Oper) (ex : Nat → Option (Value → List Res → Prop)) (nd : Nat → List Nat) (tk : Nat → Option Nat) (u : Got) (L0 : List Res) : Nat → List Oper → Env → List Nat → (Env → List Nat → Prop) → Prop
  | _, [], σ, E, K => K σ E
  | k, o :: rest, σ, E, K =>
    bif wants all σ o then
      (∀ c ∈ nd k, c ∈ liveT tk E) ∧ okDst C.N o.dst = true ∧
      match ex k with
      | some V => Sp C.P C.w0 C.B o σ (needs u (nd k) L0) (Adds V (needs u ((nd k).filter fun c => !decide (tk k = some c)) L0)) ∧ WkT C all ex nd tk u L0 (k + 1) rest (updO σ o.dst (u k).1) (k :: E) K
      | none => ∃ v, Sd C.P C.w0 C.B o σ (needs u (nd k) L0) v ∧ WkT C all ex nd tk u L0 (k + 1) rest (updO σ o.dst v) E K
    else okDst C.N o.dst = true ∧ WkT C all ex nd tk u L0 (k + 1) rest (updO σ o.dst undef) E K
def StepT (C : Ctx) (all : Array Oper) (ex : Nat → Option (Value → List Res → Prop)) (nd : Nat → List Nat) (tk : Nat → Option Nat) (u : Got) (L0 : List Res) (k : Nat) (o : Oper) (σ : Env) (E : List Nat) (v : Value) : Prop :=
  okDst C.N o.dst = true ∧
  ((wants all σ o = true ∧ (∀ c ∈ nd k, c ∈ liveT tk E) ∧ ((∃ V, ex k = some V ∧ v = (u k).1 ∧ Sp C.P C.w0 C.B o σ (needs u (nd k) L0) (Adds V (needs u ((nd k).filter fun c => !decide (tk k = some c)) L0))) ∨ (ex k = none ∧ Sd C.P C.w0 C.B o σ (needs u (nd k) L0) v))) ∨
   (wants all σ o = false ∧ v = undef))
theorem WkT.vals {C : Ctx} {all : Array Oper} {ex : Nat → Option (Value → List Res → Prop)} {nd : Nat → List Nat} {tk : Nat → Option Nat} {u : Got} {L0 : List Res} {K : Env → List Nat → Prop} :
    ∀ (l : List Oper) (k : Nat) (σ : Env) (E : List Nat), WkT C all ex nd tk u L0 k l σ E K →
      ∃ vs : List Value, vs.length = l.length ∧ (∀ i o v, l[i]? = some o → vs[i]? = some v → StepT C all ex nd tk u L0 (k + i) o (envAt (l.take i) (vs.take i) σ) (exAt all ex k (l.take i) (vs.take i) σ E) v) ∧ K (envAt l vs σ) (exAt all ex k l vs σ E)
  | [], k, σ, E, h => ⟨[], rfl, fun i o v h => by simp at h, h⟩
  | o :: l, k, σ, E, h => by
    have key : ∀ v E', StepT C all ex nd tk u L0 k o σ E v → E' = made all ex k o σ E → WkT C all ex nd tk u L0 (k + 1) l (updO σ o.dst v) E' K →
        ∃ vs : List Value, vs.length = (o :: l).length ∧ (∀ i o' v, (o :: l)[i]? = some o' → vs[i]? = some v → StepT C all ex nd tk u L0 (k + i) o' (envAt ((o :: l).take i) (vs.take i) σ) (exAt all ex k ((o :: l).take i) (vs.take i) σ E) v) ∧ K (envAt (o :: l) vs σ) (exAt all ex k (o :: l) vs σ E) := by
      rintro v E' hs rfl hw
      obtain ⟨vs, h1, h2, h3⟩ := WkT.vals l (k + 1) _ _ hw
      refine ⟨v :: vs, by simp [h1], ?_, h3⟩
      intro i o' v' hi hv
      cases i with
      | zero =>
        simp only [List.getElem?_cons_zero, Option.some.injEq] at hi hv
        subst hi; subst hv
        exact hs
      | succ i =>
        have := h2 i o' v' (by simpa using hi) (by simpa using hv)
        rw [show k + 1 + i = k + (i + 1) from by omega] at this
        exact this
    unfold WkT at h
    cases hw : wants all σ o with
    | true =>
      simp only [hw, cond_true] at h
      obtain ⟨hn, hd, h⟩ := h
      cases hx : ex k with
      | some V =>
        simp only [hx] at h
        exact key (u k).1 (k :: E) ⟨hd, .inl ⟨hw, hn, .inl ⟨V, hx, rfl, h.1⟩⟩⟩ (by simp [made, hw, hx]) h.2
      | none =>
        simp only [hx] at h
        obtain ⟨v, hs, h⟩ := h
        exact key v E ⟨hd, .inl ⟨hw, hn, .inr ⟨hx, hs⟩⟩⟩ (by simp [made, hx]) h
    | false =>
      simp only [hw, cond_false] at h
      exact key undef E ⟨h.1, .inr ⟨hw, rfl⟩⟩ (by simp [made, hw]) h.2

/-! ### What must be so: a closed test -/
def drawOkT (ops : Array Oper) (m : Nat) (nd : Nat → List Nat) (tk : Nat → Option Nat) (E0 : List Nat) : Bool :=
  let b := bef ops
  drawOk ops m (fun k => (nd k).filter fun c => Nat.blt c 1000) && Nat.ble ops.size 1000 && (E0.eraseDups.length == E0.length) && E0.all (fun c => Nat.ble 1000 c && (tk c).isNone) &&
  (List.range m).all fun k => ((nd k).eraseDups.length == (nd k).length) && (nd k).all (fun c => Nat.blt c 1000 || E0.contains c) &&
    match tk k with
    | none => true
    | some c => (nd k).contains c && !(Nat.beq c k) && (List.range m).all fun j => Nat.beq j k || !(nd j).contains c || (Nat.blt j k && (b.getD k 0).testBit j)
structure OkT (ops : Array Oper) (m : Nat) (nd : Nat → List Nat) (tk : Nat → Option Nat) (E0 : List Nat) : Prop where
  ok : Ok ops m (fun k => (nd k).filter fun c => Nat.blt c 1000)
  big : ops.size ≤ 1000
  e0 : E0.Nodup
  tok : ∀ c ∈ E0, 1000 ≤ c ∧ tk c = none
  nodu : ∀ k, k < m → (nd k).Nodup
  has : ∀ k, k < m → ∀ c ∈ nd k, c < 1000 ∨ c ∈ E0
  tak : ∀ k, k < m → ∀ c, tk k = some c → c ∈ nd k ∧ c ≠ k ∧ ∀ j, j < m → j ≠ k → c ∈ nd j → j < k ∧ Anc ops k j
theorem OkT.mk' {ops : Array Oper} {m : Nat} {nd : Nat → List Nat} {tk : Nat → Option Nat} {E0 : List Nat} (h : drawOkT ops m nd tk E0 = true) : OkT ops m nd tk E0 := by
  unfold drawOkT at h
  simp only [Bool.and_eq_true, List.all_eq_true, beq_iff_eq, List.mem_range] at h
  obtain ⟨⟨⟨⟨h1, h2⟩, h3⟩, h4⟩, h5⟩ := h
  have blt_lt : ∀ {a b : Nat}, Nat.blt a b = true → a < b := fun h => Nat.le_of_ble_eq_true h
  refine ⟨Ok.mk' h1, Nat.le_of_ble_eq_true h2, eraseDups_nodup h3, fun c hc => ⟨Nat.le_of_ble_eq_true (h4 c hc).1, by simpa using (h4 c hc).2⟩, fun k hk => eraseDups_nodup (h5 k hk).1.1, fun k hk c hc => ?_, fun k hk c hc => ?_⟩
  · have := (h5 k hk).1.2 c hc
    simp only [Bool.or_eq_true, List.contains_eq_mem, decide_eq_true_eq] at this
    exact this.imp blt_lt id
  · have := (h5 k hk).2
    rw [hc] at this
    simp only [Bool.and_eq_true, List.contains_eq_mem, decide_eq_true_eq, List.all_eq_true, List.mem_range, Bool.or_eq_true, Bool.not_eq_true', decide_eq_false_iff_not] at this
    obtain ⟨⟨h6, h7⟩, h8⟩ := this
    refine ⟨h6, fun e => ?_, fun j hj hne hcj => ?_⟩
    · subst e
      simp [Nat.beq_refl] at h7
    · rcases h8 j hj with (h9 | h9) | h9
      · exact absurd (Nat.eq_of_beq_eq_true h9) hne
      · exact absurd hcj h9
      · exact ⟨blt_lt h9.1, bef_anc h9.2⟩

/-! ### Every order -/
section
variable {C : Ctx} {l : List Oper} {m : Nat} {nd : Nat → List Nat} {tk : Nat → Option Nat} {E0 : List Nat} {ex : Nat → Option (Value → List Res → Prop)} {σ : Env} {L0 : List Res} {K : Env → List Nat → Prop}
structure GoodT (C : Ctx) (l : List Oper) (m : Nat) (ex : Nat → Option (Value → List Res → Prop)) (nd : Nat → List Nat) (tk : Nat → Option Nat) (E0 : List Nat) (L0 : List Res) (σ : Env) (K : Got → Env → List Nat → Prop) (u : Got) (vs : List Value) : Prop where
  len : vs.length = (l.take m).length
  step : ∀ (i : Nat) (o : Oper) (v : Value), (l.take m)[i]? = some o → vs[i]? = some v → StepT C l.toArray ex nd tk u L0 i o (envAt ((l.take m).take i) (vs.take i) σ) (exAt l.toArray ex 0 ((l.take m).take i) (vs.take i) σ E0) v
  fin : K u (envAt (l.take m) vs σ) (exAt l.toArray ex 0 (l.take m) vs σ E0)
structure MidT (C : Ctx) (l : List Oper) (m : Nat) (ex : Nat → Option (Value → List Res → Prop)) (nd : Nat → List Nat) (tk : Nat → Option Nat) (E0 : List Nat) (L0 : List Res) (σ : Env) (K : Got → Env → List Nat → Prop) (listed : Array Bool) (u : Got) (Ex : List Nat) (a : Act) (w : World) : Prop where
  size : a.tmps.size = C.N
  valid : Valid ex u
  nodup : Ex.Nodup
  sub : ∀ c ∈ Ex, (c < m ∧ Ls listed c) ∨ c ∈ E0
  old : ∀ c ∈ E0, c ∈ Ex
  base : ∀ t, (∀ (j : Nat) (o : Oper), j < m → l[j]? = some o → Ls listed j → o.dst ≠ some t) → a.tmps.getD t undef = σ t
  vals : ∀ u', Valid ex u' → (∀ c ∈ Ex, u' c = u c) → ∀ vs, GoodT C l m ex nd tk E0 L0 σ K u' vs → ∀ (j : Nat) (o : Oper) (v : Value), j < m → l[j]? = some o → vs[j]? = some v → Ls listed j →
    (∀ t, o.dst = some t → a.tmps.getD t undef = v) ∧ (j ∈ Ex ↔ j ∈ exAt l.toArray ex 0 (l.take m) vs σ E0)
  heap : Hp C.w0 C.B (hid C a ++ needs u (liveT tk Ex) L0) w
theorem MidT.read {Kk : Got → Env → List Nat → Prop} {listed : Array Bool} {u : Got} {Ex : List Nat} {a : Act} {w : World} (ok : OkT l.toArray m nd tk E0) (h : MidT C l m ex nd tk E0 L0 σ Kk listed u Ex a w) (hc : Shut l.toArray listed) {i : Nat} (hi : i ∈ Region.ready .any l.toArray listed) (him : i < m) {o : Oper} (ho : l[i]? = some o)
    {u' : Got} (hu' : Valid ex u') (hag : ∀ c ∈ Ex, u' c = u c) {vs : List Value} (hg : GoodT C l m ex nd tk E0 L0 σ Kk u' vs) {t : Nat} (ht : ∀ (j : Nat) (o' : Oper), j < m → l[j]? = some o' → o'.dst = some t → j < i ∧ Anc l.toArray i j) :
    a.tmps.getD t undef = envAt ((l.take m).take i) (vs.take i) σ t := by
  by_cases hex : ∃ (j : Nat) (o' : Oper), j < m ∧ l[j]? = some o' ∧ o'.dst = some t
  · obtain ⟨j, o', hjm, hj, hd⟩ := hex
    obtain ⟨hlt, hanc⟩ := ht j o' hjm hj hd
    have hls := ready_anc hc hi hanc
    have hvl : j < vs.length := by
      rw [hg.len, List.length_take]
      have : j < l.length := (List.getElem?_eq_some_iff.1 hj).1
      omega
    have hv : vs[j]? = some vs[j] := List.getElem?_eq_getElem hvl
    rw [((h.vals u' hu' hag vs hg j o' _ hjm hj hv hls).1 t hd)]
    refine (envAt_one _ _ _ t j o' vs[j] ?_ ?_ hd ?_).symm
    · rw [List.getElem?_take, if_pos hlt]; exact take_get hjm hj
    · rw [List.getElem?_take, if_pos hlt]; exact hv
    · intro j' o'' hj' hne hd'
      obtain ⟨_, h2, h3⟩ := take_take_get hj'
      exact ok.ok.uniq j' o'' h2 (by simpa using h3) j o' hjm (by simpa using hj) (fun e => hne e.symm) t hd hd'
  · rw [h.base t (fun j o' hj ho' _ hd => hex ⟨j, o', hj, ho', hd⟩)]
    refine (envAt_none _ _ _ t fun j o' hj hd => ?_).symm
    obtain ⟨_, h2, h3⟩ := take_take_get hj
    exact hex ⟨j, o', h2, h3, hd⟩
theorem exAt_atT {vs : List Value} {i : Nat} {o : Oper} {v : Value} (hE : i ∉ E0) (ho : (l.take m)[i]? = some o) (hv : vs[i]? = some v) : i ∈ exAt l.toArray ex 0 (l.take m) vs σ E0 ↔ wants l.toArray (envAt ((l.take m).take i) (vs.take i) σ) o = true ∧ (ex i).isSome = true := by
  rw [exAt_mem]
  constructor
  · rintro (h | ⟨i', o', v', h1, h2, h3, h4, h5⟩)
    · exact absurd h hE
    · obtain rfl : i = i' := by omega
      rw [ho] at h1; cases h1
      exact ⟨h4, h5⟩
  · rintro ⟨h1, h2⟩
    exact .inr ⟨i, o, v, ho, hv, by omega, h1, h2⟩
theorem MidT.put {Kk : Got → Env → List Nat → Prop} {listed : Array Bool} {u u1 : Got} {Ex Ex1 : List Nat} {a : Act} {w w' : World} {i : Nat} {o : Oper} {v : Value} (ok : OkT l.toArray m nd tk E0) (h : MidT C l m ex nd tk E0 L0 σ Kk listed u Ex a w) (hlt : i < listed.size) (hi : ¬ Ls listed i) (him : i < m) (ho : l[i]? = some o) (hd : okDst C.N o.dst = true)
    (hv1 : Valid ex u1) (hnd : Ex1.Nodup) (hcase : (Ex1 = Ex ∧ u1 = u) ∨ (Ex1 = i :: Ex ∧ ∀ c ∈ Ex, u1 c = u c))
    (hvi : ∀ u', Valid ex u' → (∀ c ∈ Ex1, u' c = u1 c) → ∀ vs, GoodT C l m ex nd tk E0 L0 σ Kk u' vs → ∀ v', vs[i]? = some v' → v' = v ∧ (i ∈ Ex1 ↔ i ∈ exAt l.toArray ex 0 (l.take m) vs σ E0))
    (hh : Hp C.w0 C.B (hid C a ++ needs u1 (liveT tk Ex1) L0) w') : MidT C l m ex nd tk E0 L0 σ Kk (listed.setIfInBounds i true) u1 Ex1 (a.put o.dst v) w' := by
  refine ⟨by rw [put_size]; exact h.size, hv1, hnd, ?_, ?_, ?_, ?_, by rw [hid_put]; exact hh⟩
  · intro c hc
    rw [Ls.set_iff hlt]
    rcases hcase with ⟨rfl, _⟩ | ⟨rfl, _⟩
    · exact (h.sub c hc).imp (fun ⟨h1, h2⟩ => ⟨h1, .inr h2⟩) id
    · rcases List.mem_cons.1 hc with rfl | hc
      · exact .inl ⟨him, .inl rfl⟩
      · exact (h.sub c hc).imp (fun ⟨h1, h2⟩ => ⟨h1, .inr h2⟩) id
  · intro c hc
    rcases hcase with ⟨rfl, _⟩ | ⟨rfl, _⟩
    · exact h.old c hc
    · exact List.mem_cons_of_mem _ (h.old c hc)
  · intro t ht
    rw [put_read h.size hd, if_neg (ht i o him ho ((Ls.set_iff hlt).2 (.inl rfl)))]
    exact h.base t (fun j o' hj ho' hl => ht j o' hj ho' ((Ls.set_iff hlt).2 (.inr hl)))
  · intro u' hu' hag vs hg j o' v' hj ho' hv' hl
    have hag' : ∀ c ∈ Ex, u' c = u c := fun c hc => by
      rcases hcase with ⟨rfl, rfl⟩ | ⟨rfl, h2⟩
      · exact hag c hc
      · rw [hag c (by simp [hc]), h2 c hc]
    by_cases hij : j = i
    · subst hij
      rw [ho] at ho'; cases ho'
      obtain ⟨h1, h2⟩ := hvi u' hu' hag vs hg v' hv'
      subst h1
      exact ⟨fun t ht => by rw [put_read h.size hd, if_pos ht], h2⟩
    · rw [Ls.set_iff hlt] at hl
      have hl := hl.resolve_left hij
      obtain ⟨h1, h2⟩ := h.vals u' hu' hag' vs hg j o' v' hj ho' hv' hl
      refine ⟨fun t ht => ?_, ?_⟩
      · rw [put_read h.size hd, if_neg (ok.ok.uniq i o him (by simpa using ho) j o' hj (by simpa using ho') hij t ht)]
        exact h1 t ht
      · rw [← h2]
        rcases hcase with ⟨rfl, _⟩ | ⟨rfl, _⟩
        · exact Iff.rfl
        · simp [hij]
theorem live_perm {E E' : List Nat} (h : E.Perm E') : (liveT tk E).Perm (liveT tk E') := by
  unfold liveT
  have : (fun c => !(E.any fun k => decide (tk k = some c))) = fun c => !(E'.any fun k => decide (tk k = some c)) := by
    funext c
    congr 1
    rw [Bool.eq_iff_iff, List.any_eq_true, List.any_eq_true]
    exact ⟨fun ⟨k, h1, h2⟩ => ⟨k, h.mem_iff.1 h1, h2⟩, fun ⟨k, h1, h2⟩ => ⟨k, h.mem_iff.2 h1, h2⟩⟩
  rw [this]
  exact h.filter _
theorem needs_perm {u : Got} {E E' : List Nat} (h : E.Perm E') : (needs u E L0).Perm (needs u E' L0) := by
  unfold needs
  exact List.Perm.append_right _ (List.Perm.flatMap_right _ h)
theorem tail_anyT (ok : OkT l.toArray m nd tk E0) {F : Fence} {Q : Exit → Act → World → Prop} (fuel j : Nat) (listed : Array Bool) (a : Act) (w : World) (h1 : listed.size = l.length) (h2 : Shut l.toArray listed) (h3 : ∀ k, Ls listed k ↔ k < j) (h4 : m ≤ j) (h5 : j ≤ l.length) (h6 : l.length ≤ j + fuel)
    (h : wpListIn F 0 C.P l.toArray Q (l.drop j) a w) : wpAnyIn F 0 C.P .any l.toArray Q fuel listed a w := tail_any ok.ok fuel j listed a w h1 h2 h3 h4 h5 h6 h
theorem draw_endT {Q : Exit → Act → World → Prop} {Kk : Got → Env → List Nat → Prop} (ok : OkT l.toArray m nd tk E0) (hgood : ∀ u, Valid ex u → ∃ vs, GoodT C l m ex nd tk E0 L0 σ Kk u vs)
    (hK : ∀ u σ' E a w, Kk u σ' E → Agree a σ' → St C (needs u (liveT tk E) L0) a w → wpListIn (FR C.r) 0 C.P l.toArray Q (l.drop m) a w)
    (listed : Array Bool) (u : Got) (Ex : List Nat) (a : Act) (w : World) (fuel : Nat) (hs : listed.size = l.length) (hc : Shut l.toArray listed) (hm : ∀ k, Ls listed k → k < m) (hall : ∀ j, j < m → Ls listed j) (hf : l.length ≤ m + fuel)
    (h : MidT C l m ex nd tk E0 L0 σ Kk listed u Ex a w) : wpAnyIn (FR C.r) 0 C.P .any l.toArray Q fuel listed a w := by
  have hml : m ≤ l.length := by simpa using ok.ok.le
  have hbig : l.length ≤ 1000 := by simpa using ok.big
  obtain ⟨vs, hg⟩ := hgood u h.valid
  have hvl : vs.length = m := by rw [hg.len, List.length_take]; omega
  refine tail_anyT ok fuel m listed a w hs hc (fun k => ⟨hm k, hall k⟩) (Nat.le_refl _) hml hf ?_
  refine hK u _ _ a w hg.fin ?_ ⟨h.size, ?_⟩
  · intro t
    by_cases hex : ∃ (j : Nat) (o' : Oper), j < m ∧ l[j]? = some o' ∧ o'.dst = some t
    · obtain ⟨j, o', hjm, hj, hd⟩ := hex
      have hv : vs[j]? = some (vs[j]'(by omega)) := List.getElem?_eq_getElem (by omega)
      rw [(h.vals u h.valid (fun _ _ => rfl) vs hg j o' _ hjm hj hv (hall j hjm)).1 t hd]
      refine (envAt_one _ _ _ t j o' _ (take_get hjm hj) hv hd ?_).symm
      intro j' o'' hj' hne hd'
      obtain ⟨h2, h3⟩ := get_take hj'
      exact ok.ok.uniq j' o'' h2 (by simpa using h3) j o' hjm (by simpa using hj) (fun e => hne e.symm) t hd hd'
    · rw [h.base t (fun j o' hj ho' _ hd => hex ⟨j, o', hj, ho', hd⟩)]
      refine (envAt_none _ _ _ t fun j o' hj hd => ?_).symm
      obtain ⟨h2, h3⟩ := get_take hj
      exact hex ⟨j, o', h2, h3, hd⟩
  · refine h.heap.perm (List.Perm.append_left _ (needs_perm (live_perm ?_)))
    refine (List.perm_ext_iff_of_nodup h.nodup (exAt_nodupT _ _ _ _ _ ok.e0 (fun c hc => .inr (by have := (ok.tok c hc).1; simp; omega)))).2 fun c => ?_
    have key : ∀ c, c < m → (c ∈ Ex ↔ c ∈ exAt l.toArray ex 0 (l.take m) vs σ E0) := fun c hc =>
      (h.vals u h.valid (fun _ _ => rfl) vs hg c l[c] (vs[c]'(by omega)) hc (List.getElem?_eq_getElem (by omega)) (List.getElem?_eq_getElem (by omega)) (hall c hc)).2
    constructor
    · intro hcm
      rcases h.sub c hcm with h1 | h1
      · exact (key c h1.1).1 hcm
      · exact (exAt_mem _ _ _ _ _ _).2 (.inl h1)
    · intro hcm
      rcases (exAt_mem _ _ _ _ _ _).1 hcm with h0 | ⟨i, o, v, h1, _, h3, _⟩
      · exact h.old c h0
      · exact (key c (by have := (get_take h1).1; omega)).2 hcm
where
  exAt_nodupT : ∀ (l' : List Oper) (vs : List Value) (k : Nat) (σ : Env) (E : List Nat), E.Nodup → (∀ c ∈ E, c < k ∨ k + l'.length ≤ c) → (exAt l.toArray ex k l' vs σ E).Nodup
    | [], _, _, _, _, h, _ => by simpa [exAt] using h
    | _ :: _, [], _, _, _, h, _ => by simpa [exAt] using h
    | o :: l', v :: vs, k, σ, E, h, hk => by
      rw [exAt]
      simp only [List.length_cons] at hk
      refine exAt_nodupT l' vs (k + 1) _ _ ?_ ?_
      · unfold made; split
        · exact List.nodup_cons.2 ⟨fun hc => by rcases hk k hc with h' | h' <;> omega, h⟩
        · exact h
      · intro c hc
        unfold made at hc; split at hc
        · rcases List.mem_cons.1 hc with rfl | hc
          · omega
          · rcases hk c hc with h' | h' <;> omega
        · rcases hk c hc with h' | h' <;> omega
theorem draw_anyT {Q : Exit → Act → World → Prop} {Kk : Got → Env → List Nat → Prop} (ok : OkT l.toArray m nd tk E0) (hgood : ∀ u, Valid ex u → ∃ vs, GoodT C l m ex nd tk E0 L0 σ Kk u vs)
    (hK : ∀ u σ' E a w, Kk u σ' E → Agree a σ' → St C (needs u (liveT tk E) L0) a w → wpListIn (FR C.r) 0 C.P l.toArray Q (l.drop m) a w) :
    ∀ (fuel : Nat) (listed : Array Bool) (u : Got) (Ex : List Nat) (a : Act) (w : World), listed.size = l.length → Shut l.toArray listed → (∀ k, Ls listed k → k < m) → listed.toList.countP (fun b => !b) ≤ fuel →
      MidT C l m ex nd tk E0 L0 σ Kk listed u Ex a w → wpAnyIn (FR C.r) 0 C.P .any l.toArray Q fuel listed a w := by
  have hml : m ≤ l.length := by simpa using ok.ok.le
  have hbig : l.length ≤ 1000 := by simpa using ok.big
  have hnE : ∀ i, i < m → i ∉ E0 := fun i hi hE => by have := (ok.tok i hE).1; omega
  have hcount : ∀ (listed : Array Bool), listed.size = l.length → (∀ k, Ls listed k → k < m) → l.length - m ≤ listed.toList.countP (fun b => !b) := fun listed hs hm => by
    have h1 : (listed.toList.drop m).countP (fun b => !b) ≤ listed.toList.countP (fun b => !b) := (List.drop_sublist m _).countP_le
    have h2 : (listed.toList.drop m).countP (fun b => !b) = (listed.toList.drop m).length := by
      rw [List.countP_eq_length]
      intro b hb
      obtain ⟨j, hj⟩ := List.getElem?_of_mem hb
      rw [List.getElem?_drop] at hj
      cases b with
      | false => rfl
      | true =>
        have : Ls listed (m + j) := by
          unfold Ls
          rw [Array.getD_eq_getD_getElem?, ← Array.getElem?_toList, hj]; rfl
        have := hm _ this
        omega
    rw [List.length_drop, Array.length_toList, hs] at h2
    omega
  intro fuel
  induction fuel with
  | zero =>
    intro listed u Ex a w hs hc hm hcnt h
    have hml' := hcount listed hs hm
    refine draw_endT ok hgood hK listed u Ex a w 0 hs hc hm (fun j hj => ?_) (by omega) h
    have h0 : listed.toList.countP (fun b => !b) = 0 := by omega
    rw [List.countP_eq_zero] at h0
    have := h0 (listed[j]'(by omega)) (by simp)
    unfold Ls
    rw [Array.getD_eq_getD_getElem?, Array.getElem?_eq_getElem (by omega)]
    simpa using this
  | succ fuel ih =>
    intro listed u Ex a w hs hc hm hcnt h
    have hml' := hcount listed hs hm
    by_cases hall : ∀ j, j < m → Ls listed j
    · exact draw_endT ok hgood hK listed u Ex a w (fuel + 1) hs hc hm hall (by omega) h
    refine ⟨fun hr => absurd (fun j hj => all_listed ok.ok (by simpa using hs) hr j (by simp; omega)) hall, fun i hi => ?_⟩
    obtain ⟨h1, o, ho', _⟩ := mem_ready.1 hi
    have ho : l[i]? = some o := by simpa using ho'
    have hil : i < l.length := (List.getElem?_eq_some_iff.1 ho).1
    have hni : ¬ Ls listed i := (not_ls (by omega)).2 h1
    have him : i < m := by
      rcases Nat.lt_or_ge i m with h' | h'
      · exact h'
      · exact absurd (fun j hj => ready_anc hc hi (ok.ok.tail i o h' ho' j (by omega))) hall
    have hc' := hc.set hi (by omega)
    have hm' : ∀ k, Ls (listed.setIfInBounds i true) k → k < m := fun k hk => by
      rcases (Ls.set_iff (by omega)).1 hk with rfl | hk
      · exact him
      · exact hm k hk
    have hcnt' : (listed.setIfInBounds i true).toList.countP (fun b => !b) ≤ fuel := by
      have hb : listed.toList[i]'(by simp; omega) = false := by
        have := h1
        rw [Array.getD_eq_getD_getElem?, Array.getElem?_eq_getElem (by omega)] at this
        simpa using this
      have hpos : 0 < listed.toList.countP (fun b => !b) := List.countP_pos_iff.2 ⟨false, by rw [← hb]; exact List.getElem_mem _, rfl⟩
      have e := List.countP_set (p := fun b : Bool => !b) (l := listed.toList) (i := i) (a := true) (by simp; omega)
      rw [hb] at e
      rw [Array.toList_setIfInBounds, e]
      show _ - 1 + 0 ≤ fuel
      omega
    have goOn := fun u1 Ex1 a1 w1 => ih (listed.setIfInBounds i true) u1 Ex1 a1 w1 (by simpa using hs) hc' hm' hcnt'
    have hread : ∀ u', Valid ex u' → (∀ c ∈ Ex, u' c = u c) → ∀ vs, GoodT C l m ex nd tk E0 L0 σ Kk u' vs → (∀ x ∈ o.op.operands, ev (fun t => a.tmps.getD t undef) x = ev (envAt ((l.take m).take i) (vs.take i) σ) x) ∧ wants l.toArray (fun t => a.tmps.getD t undef) o = wants l.toArray (envAt ((l.take m).take i) (vs.take i) σ) o := fun u' hu' hag vs hg => by
      refine ⟨fun x hx => ?_, wants_congr fun g b hgd tg htg => ?_⟩
      · cases x with
        | tmp t => exact h.read ok hc hi him ho hu' hag hg (fun j o' hj hjo hd => ok.ok.look i o him ho' j o' hj (by simpa using hjo) t hd hx)
        | _ => rfl
      · exact h.read ok hc hi him ho hu' hag hg (fun j o' hj hjo hd => ok.ok.gard i o him ho' g b hgd tg htg j o' hj (by simpa using hjo) hd)
    have hexec : ∀ u', Valid ex u' → (∀ c ∈ Ex, u' c = u c) → ∀ vs, GoodT C l m ex nd tk E0 L0 σ Kk u' vs → execOp (ev (fun t => a.tmps.getD t undef)) o = execOp (ev (envAt ((l.take m).take i) (vs.take i) σ)) o := fun u' hu' hag vs hg =>
      execOp_congr o (ok.ok.sel i o ho') (hread u' hu' hag vs hg).1
    have hat : ∀ vs : List Value, vs.length = (l.take m).length → ∃ v, vs[i]? = some v := fun vs hl => ⟨vs[i]'(by rw [hl, List.length_take]; omega), List.getElem?_eq_getElem _⟩
    -- no one who has run takes what i reads, but i itself
    have hfree : ∀ c ∈ nd i, ∀ k ∈ Ex, tk k ≠ some c := fun c hcn k hk hkc => by
      rcases h.sub k hk with ⟨hkm, hkl⟩ | hk0
      · have h2 := ok.tak k hkm c hkc
        have hki : i ≠ k := fun e => hni (e ▸ hkl)
        have h3 := (h2.2.2 i him hki hcn).2
        exact hni (anc_in (D := Ls listed) hc h3 (hc k hkl))
      · rw [(ok.tok k hk0).2] at hkc; cases hkc
    have hneed : ∀ u' vs, Valid ex u' → (∀ c ∈ Ex, u' c = u c) → GoodT C l m ex nd tk E0 L0 σ Kk u' vs → (∀ c ∈ nd i, c ∈ liveT tk (exAt l.toArray ex 0 ((l.take m).take i) (vs.take i) σ E0)) →
        ∃ Rl : List Nat, (liveT tk Ex).Perm (nd i ++ Rl) ∧ Hp C.w0 C.B ((hid C a ++ Rl.flatMap fun c => (u c).2) ++ needs u' (nd i) L0) w := fun u' vs hu' hag hg hn => by
      have hsub : ∀ c ∈ nd i, c ∈ liveT tk Ex := fun c hcn => by
        refine mem_liveT.2 ⟨?_, hfree c hcn⟩
        rcases ok.has i him c hcn with hc1 | hc1
        · have hcn' : c ∈ (nd i).filter fun c => Nat.blt c 1000 := List.mem_filter.2 ⟨hcn, Nat.ble_eq_true_of_le hc1⟩
          have hcl := ready_anc hc hi (ok.ok.need i o him ho' c hcn').2
          have hci := (ok.ok.need i o him ho' c hcn').1
          have hcm : c < m := by omega
          obtain ⟨v, hv⟩ : ∃ v, vs[c]? = some v := ⟨vs[c]'(by rw [hg.len, List.length_take]; omega), List.getElem?_eq_getElem _⟩
          refine ((h.vals u' hu' hag vs hg c l[c] v hcm (List.getElem?_eq_getElem (by omega)) hv hcl).2).2 ?_
          rcases (exAt_mem _ _ _ _ _ _).1 (mem_liveT.1 (hn c hcn)).1 with h0 | ⟨j, o', v', h2, h3, h4, h5, h6⟩
          · have := (ok.tok c h0).1; omega
          · obtain ⟨hji, hjm, hjl⟩ := take_take_get h2
            refine (exAt_mem _ _ _ _ _ _).2 (.inr ⟨j, o', v', take_get hjm hjl, ?_, h4, ?_, h6⟩)
            · rw [List.getElem?_take, if_pos hji] at h3; exact h3
            · have e1 : ((l.take m).take i).take j = (l.take m).take j := by rw [List.take_take, Nat.min_eq_left (by omega)]
              have e2 : (vs.take i).take j = vs.take j := by rw [List.take_take, Nat.min_eq_left (by omega)]
              rw [e1, e2] at h5; exact h5
        · exact h.old c hc1
      have hnd : (liveT tk Ex).Nodup := h.nodup.filter _
      obtain ⟨R, hp⟩ := perm_needs hsub (ok.nodu i him) hnd
      have hfl : ∀ E : List Nat, (∀ c ∈ E, c ∈ Ex) → E.flatMap (fun c => (u c).2) = E.flatMap (fun c => (u' c).2) := fun E hE => by
        induction E with
        | nil => rfl
        | cons c E ihE =>
          rw [List.flatMap_cons, List.flatMap_cons, hag c (hE c (by simp)), ihE (fun d hd => hE d (by simp [hd]))]
      have hpp : (needs u (liveT tk Ex) L0).Perm ((R.flatMap fun c => (u c).2) ++ needs u' (nd i) L0) := by
        unfold needs
        rw [← hfl (nd i) (fun c hcn => (mem_liveT.1 (hsub c hcn)).1), ← List.append_assoc]
        refine List.Perm.append_right _ ((List.Perm.flatMap_right _ hp).trans ?_)
        rw [List.flatMap_append]
        exact List.perm_append_comm
      refine ⟨R, hp, h.heap.perm ?_⟩
      rw [List.append_assoc]
      exact List.Perm.append_left _ hpp
    obtain ⟨vs, hg⟩ := hgood u h.valid
    obtain ⟨v, hv⟩ := hat vs hg.len
    have hstep := hg.step i o v (take_get him ho) hv
    obtain ⟨hd, hstep⟩ := hstep
    unfold wpOpIn
    rw [ho']
    simp only
    rcases hstep with ⟨hw, hn, hcase⟩ | ⟨hw, rfl⟩
    · rw [if_pos (wanted_eq (Agree.refl a) (by rw [(hread u h.valid (fun _ _ => rfl) vs hg).2]; exact hw))]
      obtain ⟨R, hp, hhp⟩ := hneed u vs h.valid (fun _ _ => rfl) hg hn
      rcases hcase with ⟨V, hx, rfl, hsp⟩ | ⟨hx, hsd⟩
      · have hgo := hsp _ w hhp
        rw [← hexec u h.valid (fun _ _ => rfl) vs hg] at hgo
        refine hgo.wpIn (Agree.refl a) ?_
        rintro v' w' ⟨L', hh', T, rfl, hV⟩
        have hniE : i ∉ Ex := fun hiE => by
          rcases h.sub i hiE with h2 | h2
          · exact hni h2.2
          · exact hnE i him h2
        have hval : Valid ex (fun c => if c = i then (v', T) else u c) := fun k V' hk => by
          by_cases hki : k = i
          · subst hki; rw [hx] at hk; cases hk; simpa using hV
          · simp only [if_neg hki]; exact h.valid k V' hk
        have hsame : ∀ c ∈ Ex, (if c = i then (v', T) else u c) = u c := fun c hcE => if_neg (fun e : c = i => hniE (e ▸ hcE))
        refine goOn (fun c => if c = i then (v', T) else u c) (i :: Ex) _ _ ?_
        refine h.put ok (by omega) hni him ho hd hval (List.nodup_cons.2 ⟨hniE, h.nodup⟩) (.inr ⟨rfl, hsame⟩) ?_ ?_
        · intro u' hu' hag vs' hg' v2 hv2
          have hag' : ∀ c ∈ Ex, u' c = u c := fun c hcE => by rw [hag c (by simp [hcE]), hsame c hcE]
          obtain ⟨_, hs2⟩ := hg'.step i o v2 (take_get him ho) hv2
          have hw2 : wants l.toArray (envAt ((l.take m).take i) (vs'.take i) σ) o = true := by
            rw [← (hread u' hu' hag' vs' hg').2, (hread u h.valid (fun _ _ => rfl) vs hg).2]; exact hw
          refine ⟨?_, by simp [exAt_atT (hnE i him) (take_get him ho) hv2, hw2, hx]⟩
          rcases hs2 with ⟨_, _, ⟨V2, hx2, rfl, _⟩ | ⟨hx2, _⟩⟩ | ⟨hw3, _⟩
          · have := hag i (by simp)
            rw [this]; simp
          · rw [hx] at hx2; cases hx2
          · rw [hw2] at hw3; cases hw3
        · refine hh'.perm ?_
          rw [List.append_assoc]
          refine List.Perm.append_left _ ?_
          -- what lives behind it
          have hlive : (liveT tk (i :: Ex)).Perm (i :: ((nd i).filter (fun c => !decide (tk i = some c)) ++ R)) := by
            have e0 : liveT tk (i :: Ex) = i :: (liveT tk Ex).filter (fun c => !decide (tk i = some c)) := by
              unfold liveT
              have hii : (!((i :: Ex).any fun k => decide (tk k = some i))) = true := by
                simp only [Bool.not_eq_true', List.any_eq_false, List.mem_cons, decide_eq_true_eq]
                rintro k (rfl | hk) hkc
                · exact (ok.tak _ him _ hkc).2.1 rfl
                · rcases h.sub k hk with ⟨hkm, hkl⟩ | hk0
                  · have h2 := ok.tak k hkm i hkc
                    have h4 : i ∈ (nd k).filter fun c => Nat.blt c 1000 := List.mem_filter.2 ⟨h2.1, Nat.ble_eq_true_of_le (by omega)⟩
                    obtain ⟨ok', hok'⟩ : ∃ o', l[k]? = some o' := ⟨l[k]'(by omega), List.getElem?_eq_getElem (by omega)⟩
                    have h3 := (ok.ok.need k ok' hkm (by simpa using hok') i h4).2
                    exact hni (anc_in (D := Ls listed) hc h3 (hc k hkl))
                  · rw [(ok.tok k hk0).2] at hkc; cases hkc
              rw [List.filter_cons, if_pos hii]
              congr 1
              rw [List.filter_filter]
              apply List.filter_congr
              intro c _
              simp only [List.any_cons, Bool.not_or]
            rw [e0]
            refine List.Perm.cons _ ?_
            refine (hp.filter _).trans ?_
            rw [List.filter_append]
            refine List.Perm.append_left _ ?_
            have : R.filter (fun c => !decide (tk i = some c)) = R := by
              rw [List.filter_eq_self]
              intro c hcR
              simp only [Bool.not_eq_true', decide_eq_false_iff_not]
              intro hkc
              have h2 := (ok.tak i him c hkc).1
              have hnd : (nd i ++ R).Nodup := hp.nodup_iff.1 (h.nodup.filter _)
              exact (List.nodup_append.1 hnd).2.2 c h2 c hcR rfl
            rw [this]
          have hRE : ∀ c ∈ (nd i).filter (fun c => !decide (tk i = some c)) ++ R, c ∈ Ex := fun c hcc => by
            have : c ∈ nd i ++ R := by
              rcases List.mem_append.1 hcc with h2 | h2
              · exact List.mem_append_left _ (List.mem_filter.1 h2).1
              · exact List.mem_append_right _ h2
            exact (mem_liveT.1 (hp.mem_iff.2 this)).1
          have e1 : ∀ E : List Nat, (∀ c ∈ E, c ∈ Ex) → E.flatMap (fun c => (if c = i then (v', T) else u c).2) = E.flatMap (fun c => (u c).2) := fun E hE => by
            induction E with
            | nil => rfl
            | cons c E ihE => rw [List.flatMap_cons, List.flatMap_cons, hsame c (hE c (by simp)), ihE (fun d hd => hE d (by simp [hd]))]
          have e2 : needs (fun c => if c = i then (v', T) else u c) (i :: ((nd i).filter (fun c => !decide (tk i = some c)) ++ R)) L0 = T ++ (((nd i).filter (fun c => !decide (tk i = some c))).flatMap (fun c => (u c).2) ++ (R.flatMap (fun c => (u c).2) ++ L0)) := by
            unfold needs
            rw [List.flatMap_cons, e1 _ hRE, List.flatMap_append]
            simp
          refine List.Perm.trans ?_ (needs_perm hlive.symm)
          rw [e2]
          unfold needs
          refine List.Perm.trans List.perm_append_comm ?_
          rw [List.append_assoc, List.append_assoc]
          refine List.Perm.append_left _ (List.Perm.append_left _ List.perm_append_comm)
      · have hrun := hsd _ w hhp
        rw [← hexec u h.valid (fun _ _ => rfl) vs hg] at hrun
        have hgo : Goes C.P ((execOp (ev (fun t => a.tmps.getD t undef)) o).run C.P w) (fun v' w' => v' = v ∧ w' = w) := .inl ⟨v, w, hrun, rfl, rfl⟩
        refine hgo.wpIn (Agree.refl a) ?_
        rintro v' w' ⟨rfl, rfl⟩
        have hniE : i ∉ Ex := fun hiE => by
          rcases h.sub i hiE with h2 | h2
          · exact hni h2.2
          · exact hnE i him h2
        refine goOn u Ex _ _ (h.put ok (by omega) hni him ho hd h.valid h.nodup (.inl ⟨rfl, rfl⟩) ?_ h.heap)
        intro u' hu' hag vs' hg' v2 hv2
        obtain ⟨_, hs2⟩ := hg'.step i o v2 (take_get him ho) hv2
        have hw2 : wants l.toArray (envAt ((l.take m).take i) (vs'.take i) σ) o = true := by
          rw [← (hread u' hu' hag vs' hg').2, (hread u h.valid (fun _ _ => rfl) vs hg).2]; exact hw
        refine ⟨?_, by simp [exAt_atT (hnE i him) (take_get him ho) hv2, hx, hniE]⟩
        rcases hs2 with ⟨_, hn2, ⟨V2, hx2, _, _⟩ | ⟨_, hsd2⟩⟩ | ⟨hw3, _⟩
        · rw [hx] at hx2; cases hx2
        · obtain ⟨R2, _, hhp2⟩ := hneed u' vs' hu' hag hg' hn2
          have hrun2 := hsd2 _ w' hhp2
          rw [← hexec u' hu' hag vs' hg', hrun] at hrun2
          injection hrun2 with h5
          injection h5 with h5
          exact h5.symm
        · rw [hw2] at hw3; cases hw3
    · rw [if_neg (by rw [wanted_ne (Agree.refl a) (by rw [(hread u h.valid (fun _ _ => rfl) vs hg).2]; exact hw)]; simp)]
      have hniE : i ∉ Ex := fun hiE => by
        rcases h.sub i hiE with h2 | h2
        · exact hni h2.2
        · exact hnE i him h2
      refine ⟨fun _ _ => trivial, goOn u Ex _ _ (h.put ok (by omega) hni him ho hd h.valid h.nodup (.inl ⟨rfl, rfl⟩) ?_ h.heap)⟩
      intro u' hu' hag vs' hg' v2 hv2
      obtain ⟨_, hs2⟩ := hg'.step i o v2 (take_get him ho) hv2
      have hw2 : wants l.toArray (envAt ((l.take m).take i) (vs'.take i) σ) o = false := by
        rw [← (hread u' hu' hag vs' hg').2, (hread u h.valid (fun _ _ => rfl) vs hg).2]; exact hw
      refine ⟨?_, by simp [exAt_atT (hnE i him) (take_get him ho) hv2, hw2, hniE]⟩
      rcases hs2 with ⟨hw3, _⟩ | ⟨_, h5⟩
      · rw [hw2] at hw3; cases hw3
      · exact h5
end
/-- **A REGION WHOSE ORDER IS DRAWN**, what was there in tokens E0: token c holds T0 c. -/
theorem Cd.drawT {C : Ctx} {Q : Exit → Env → List Res → Prop} {id : Nat} {l : List Oper} {σ : Env} {L L0 : List Res} (hm : C.P.follows .mixedOrders = true) (m : Nat) (ex : Nat → Option (Value → List Res → Prop)) (nd : Nat → List Nat) (tk : Nat → Option Nat) (E0 : List Nat) (T0 : Nat → List Res) (hok : drawOkT l.toArray m nd tk E0 = true)
    (hL : L.Perm (E0.flatMap T0 ++ L0)) (hex : ∀ c ∈ E0, ex c = some (fun v R => v = undef ∧ R = T0 c)) (hin : ∀ k V, ex k = some V → ∃ v R, V v R)
    (h : ∀ u : Got, Valid ex u → (∀ c ∈ E0, u c = (undef, T0 c)) → WkT C l.toArray ex nd tk u L0 0 (l.take m) σ E0 (fun σ' E => Ol C l.toArray (l.drop m) (fun σ L => Q .normal σ L) σ' (needs u (liveT tk E) L0))) :
    Cd C (.region id l.toArray true) Q σ L := by
  intro a w ha hs
  refine wpIn_region_any hm ?_
  have ok : OkT l.toArray m nd tk E0 := OkT.mk' hok
  have hu0e : ∀ u, Valid ex u → ∀ c ∈ E0, u c = (undef, T0 c) := fun u hu c hc => by
    obtain ⟨h1, h2⟩ := hu c _ (hex c hc)
    rw [← h1, ← h2]
  have hgood : ∀ u, Valid ex u → ∃ vs, GoodT C l m ex nd tk E0 L0 σ (fun u σ' E => Ol C l.toArray (l.drop m) (fun σ L => Q .normal σ L) σ' (needs u (liveT tk E) L0)) u vs := fun u hu => by
    obtain ⟨vs, h1, h2, h3⟩ := (h u hu (hu0e u hu)).vals
    exact ⟨vs, h1, fun i o v hi hv => by simpa using h2 i o v hi hv, h3⟩
  have hu0 : ∃ u : Got, Valid ex u := by
    refine ⟨fun k => match hx : ex k with
      | some V => (Classical.choose (hin k V hx), Classical.choose (Classical.choose_spec (hin k V hx)))
      | none => (undef, []), fun k V hk => ?_⟩
    have := Classical.choose_spec (Classical.choose_spec (hin k V hk))
    simp only
    split
    · rename_i V' hx
      rw [hk] at hx
      cases hx
      exact this
    · rename_i hx; rw [hk] at hx; cases hx
  obtain ⟨u, hu⟩ := hu0
  have hlive : liveT tk E0 = E0 := by
    unfold liveT
    rw [List.filter_eq_self]
    intro c _
    simp only [Bool.not_eq_true', List.any_eq_false, decide_eq_true_eq]
    intro k hk hkc
    rw [(ok.tok k hk).2] at hkc; cases hkc
  have hneeds : needs u E0 L0 = E0.flatMap T0 ++ L0 := by
    unfold needs
    congr 1
    have : ∀ E : List Nat, (∀ c ∈ E, c ∈ E0) → E.flatMap (fun c => (u c).2) = E.flatMap T0 := fun E hE => by
      induction E with
      | nil => rfl
      | cons c E ihE => rw [List.flatMap_cons, List.flatMap_cons, hu0e u hu c (hE c (by simp)), ihE (fun d hd => hE d (by simp [hd]))]
    exact this E0 (fun _ h => h)
  refine draw_anyT (nd := nd) (tk := tk) (E0 := E0) (ex := ex) (σ := σ) (L0 := L0) ok hgood (fun u σ' E a w hk ha hs => hk a w _ ha hs fun a' w' σ'' L' h1 h2 h3 => ⟨σ'', L', h1, h2, h3⟩) l.toArray.size (Array.replicate l.toArray.size false) u E0 a _ (by simp) ?_ ?_ ?_ ⟨hs.size, hu, ok.e0, fun c hc => .inr hc, fun c hc => hc, fun t _ => ha t, ?_, ?_⟩
  · intro k hk
    exact (ls_rep hk).elim
  · intro k hk
    exact (ls_rep hk).elim
  · simp only [Array.toList_replicate]
    exact Nat.le_trans List.countP_le_length (by simp)
  · intro u' _ _ vs _ j o v _ _ _ hl
    exact (ls_rep hl).elim
  · rw [hlive, hneeds]
    exact (hs.heap.step (Stp.drew w)).perm (List.Perm.append_left _ hL)
/-! ### The walk's steps -/
section
variable {C : Ctx} {all : Array Oper} {ex : Nat → Option (Value → List Res → Prop)} {nd : Nat → List Nat} {tk : Nat → Option Nat} {u : Got} {L0 : List Res} {k : Nat} {rest : List Oper} {σ : Env} {E : List Nat} {K : Env → List Nat → Prop} {op : Op} {d : Option Nat} {ty : TypeId} {pos : String} {af : Array Edge} {gd : Option (Nat × Bool)} {v : Value}
theorem WkT.nil (h : K σ E) : WkT C all ex nd tk u L0 k [] σ E K := h
theorem WkT.goN {l : List Nat} (hw : wants all σ ⟨d, op, ty, pos, af, gd⟩ = true) (h : Sd C.P C.w0 C.B ⟨d, op, ty, pos, af, gd⟩ σ (needs u l L0) v) (hk : WkT C all ex nd tk u L0 (k + 1) rest (updO σ d v) E K)
    (hd : okDst C.N d = true) (hx : ex k = none) (hn : nd k = l) (hE : ∀ c ∈ l, c ∈ liveT tk E) : WkT C all ex nd tk u L0 k (⟨d, op, ty, pos, af, gd⟩ :: rest) σ E K := by
  unfold WkT
  simp only [hw, cond_true, hx, hn]
  exact ⟨hE, hd, v, h, hk⟩
theorem WkT.goX {l l2 : List Nat} {V : Value → List Res → Prop} (hw : wants all σ ⟨d, op, ty, pos, af, gd⟩ = true) (hu : Valid ex u) (hx : ex k = some V) (hn : nd k = l) (h2 : (l.filter fun c => !decide (tk k = some c)) = l2) (hE : ∀ c ∈ l, c ∈ liveT tk E)
    (h : Sp C.P C.w0 C.B ⟨d, op, ty, pos, af, gd⟩ σ (needs u l L0) (Adds V (needs u l2 L0))) (hk : ∀ v T, u k = (v, T) → V v T → WkT C all ex nd tk u L0 (k + 1) rest (updO σ d v) (k :: E) K)
    (hd : okDst C.N d = true) : WkT C all ex nd tk u L0 k (⟨d, op, ty, pos, af, gd⟩ :: rest) σ E K := by
  unfold WkT
  simp only [hw, cond_true, hx, hn, h2]
  exact ⟨hE, hd, h, hk _ _ rfl (hu k V hx)⟩
theorem WkT.p (h : Sd C.P C.w0 C.B ⟨d, op, ty, pos, af, none⟩ σ L0 v) (hk : WkT C all ex nd tk u L0 (k + 1) rest (updO σ d v) E K) (hd : okDst C.N d = true := by rfl) (hx : ex k = none := by rfl) (hn : nd k = [] := by rfl) :
    WkT C all ex nd tk u L0 k (⟨d, op, ty, pos, af, none⟩ :: rest) σ E K := WkT.goN (l := []) rfl h hk hd hx hn (fun c h => by cases h)
theorem WkT.xn {l l2 : List Nat} {V : Value → List Res → Prop} (hu : Valid ex u) (hn : nd k = l) (h2 : (l.filter fun c => !decide (tk k = some c)) = l2) (hE : (l.all fun c => (liveT tk E).contains c) = true) (h : Sp C.P C.w0 C.B ⟨d, op, ty, pos, af, none⟩ σ (needs u l L0) (Adds V (needs u l2 L0))) (hk : ∀ v T, u k = (v, T) → V v T → WkT C all ex nd tk u L0 (k + 1) rest (updO σ d v) (k :: E) K)
    (hd : okDst C.N d = true := by rfl) (hx : ex k = some V := by rfl) : WkT C all ex nd tk u L0 k (⟨d, op, ty, pos, af, none⟩ :: rest) σ E K :=
  WkT.goX rfl hu hx hn h2 (fun c hc => by simpa using List.all_eq_true.1 hE c hc) h hk hd
end
end Go.Proofs.YtjenaenakopicaaGreat

/- Many rows of numbers of one's own, one behind the other among what is held; arrays told by a function. Over any program. -/
namespace Go.Proofs.YtjenaenakopicaaGreat
set_option linter.unusedVariables false
open Go Go.RowKit

/-- Cells told by a function. -/
def rngV (n : Nat) (h : Nat → Value) : Array Value := ((List.range n).map h).toArray
theorem rngV_size (n : Nat) (h : Nat → Value) : (rngV n h).size = n := by simp [rngV]
theorem rngV_get {n : Nat} {h : Nat → Value} {i : Nat} (hi : i < n) : (rngV n h)[i]? = some (h i) := by simp [rngV, hi]
theorem rngV_set {n : Nat} {h : Nat → Value} {k : Nat} {v : Value} : (rngV n h).setIfInBounds k v = rngV n (fun x => if x = k then v else h x) := by
  apply Array.ext
  · simp [rngV]
  · intro i h1 h2
    simp only [rngV, List.setIfInBounds_toArray, List.getElem_toArray]
    rw [List.getElem_set]
    by_cases e : k = i
    · subst e; simp
    · rw [if_neg e]; simp [Ne.symm e]
theorem rngV_congr {n : Nat} {h h' : Nat → Value} (he : ∀ i, i < n → h i = h' i) : rngV n h = rngV n h' := by
  unfold rngV
  congr 1
  apply List.map_congr_left
  intro i hi
  exact he i (by simpa using hi)
/-- The slices' heads: where they lie, their room. -/
abbrev Heads := Nat → Option Addr × Nat
def headV (H : Heads) (xs : Nat → List Int) (x : Nat) : Value := .slice (H x).1 (xs x).length (H x).2
def rowP (e : Nat) (H : Heads) (xs : Nat → List Int) (x : Nat) : Res := row (headV H xs x) e 1 (xs x).length (ints (xs x))
def rowsP (n e : Nat) (H : Heads) (xs : Nat → List Int) : List Res := (List.range n).map (rowP e H xs)
def restP (n e b : Nat) (H : Heads) (xs : Nat → List Int) : List Res := ((List.range n).eraseIdx b).map (rowP e H xs)
end Go.Proofs.YtjenaenakopicaaGreat

/- Plain laws behind ir.Right: whether all that is read has a value. -/
namespace Go.Proofs.YtjenaenakopicaaGreat
set_option linter.unusedVariables false
open Go Go.RowKit

def okPast : List RIns → Tm → VS → Bool
  | [], t, s => hasV s (needsL t)
  | i :: l, t, s => hasV s (readsL i) && okPast l t (putV s (defI i).toNat true)
theorem hasV_iff {s : VS} {l : List Int} : hasV s l = true ↔ ∀ n ∈ l, s n.toNat = true := by
  unfold hasV; rw [List.all_eq_true]
theorem exposed_range : ∀ {l : List RIns} {t : Tm} {v : Int}, exposed l t v = true → 1 ≤ v ∧ v ≤ 200
  | [], t, v, h => by
    have := needsL_mem (t := t) (n := v) (by simpa [exposed] using h)
    omega
  | i :: l, t, v, h => by
    unfold exposed at h
    rw [Bool.or_eq_true] at h
    rcases h with h | h
    · exact readsL_mem (by simpa using h)
    · rw [Bool.and_eq_true] at h
      exact exposed_range h.2
theorem okPast_iff : ∀ {l : List RIns} {t : Tm} {s : VS}, okPast l t s = true ↔ ∀ v : Int, exposed l t v = true → s v.toNat = true
  | [], t, s => by
    unfold okPast
    rw [hasV_iff]
    exact ⟨fun h v hv => h v (by simpa [exposed] using hv), fun h v hv => h v (by simpa [exposed] using hv)⟩
  | i :: l, t, s => by
    unfold okPast
    rw [Bool.and_eq_true, hasV_iff, okPast_iff]
    have hd := defI_range i
    constructor
    · rintro ⟨h1, h2⟩ v hv
      have hr := exposed_range hv
      unfold exposed at hv
      rw [Bool.or_eq_true] at hv
      rcases hv with hv | hv
      · exact h1 v (by simpa using hv)
      · rw [Bool.and_eq_true] at hv
        have hne : defI i ≠ v := by simpa using hv.1
        have := h2 v hv.2
        unfold putV at this
        rwa [if_neg (by omega)] at this
    · intro h
      refine ⟨fun n hn => h n (by unfold exposed; rw [Bool.or_eq_true]; exact .inl (by simpa using hn)), fun v hv => ?_⟩
      have hr := exposed_range hv
      unfold putV
      by_cases e : defI i = v
      · rw [if_pos (by omega)]
      · rw [if_neg (by omega)]
        refine h v ?_
        unfold exposed
        rw [Bool.or_eq_true]
        right
        rw [Bool.and_eq_true]
        exact ⟨by simpa using e, hv⟩
/-- What is in a set behind a block's instructions. -/
def outV (l : List RIns) (s : VS) : VS := l.foldl (fun s i => putV s (defI i).toNat true) s
theorem outV_iff : ∀ {l : List RIns} {s : VS} {v : Nat}, outV l s v = true ↔ s v = true ∨ ∃ i ∈ l, (defI i).toNat = v
  | [], s, v => by simp [outV]
  | i :: l, s, v => by
    show outV l (putV s (defI i).toNat true) v = true ↔ _
    rw [outV_iff]
    have : putV s (defI i).toNat true v = true ↔ s v = true ∨ (defI i).toNat = v := by
      unfold putV
      by_cases e : v = (defI i).toNat
      · rw [if_pos e]; simp [e]
      · rw [if_neg e]
        exact ⟨.inl, fun h => h.elim id fun h => absurd h.symm e⟩
    rw [this]
    simp only [List.mem_cons, exists_eq_or_imp]
    exact or_assoc
theorem outV_snoc {l : List RIns} {k : Nat} {i : RIns} {s : VS} (h : l[k]? = some i) : outV (l.take (k + 1)) s = putV (outV (l.take k) s) (defI i).toNat true := by
  unfold outV
  rw [take_snoc_ h, List.foldl_append]; rfl
/-- A way from the first block to the begin of another, on which a variable gets no value. -/
inductive Bare (f : RFun) (v : Nat) : Nat → Prop
  | zero : (∀ p ∈ f.params, p.toNat ≠ v) → Bare f v 0
  | step {a b : Nat} {x : RBlk} : Bare f v a → f.blocks[a]? = some x → (∀ i ∈ x.ins, (defI i).toNat ≠ v) → (b : Int) ∈ toL x.term → Bare f v b
open Classical in
noncomputable def valuedF (f : RFun) : Bool := decide (∀ (b : Nat) (x : RBlk) (v : Int), f.blocks[b]? = some x → exposed x.ins x.term v = true → ¬ Bare f v.toNat b)
theorem valuedF_iff {f : RFun} : valuedF f = true ↔ ∀ (b : Nat) (x : RBlk) (v : Int), f.blocks[b]? = some x → exposed x.ins x.term v = true → ¬ Bare f v.toNat b := by
  unfold valuedF; exact @decide_eq_true_iff _ (Classical.propDecidable _)
abbrev IV := Nat → VS
def setI (I : IV) (b : Nat) (s : VS) : IV := fun x => if x = b then s else I x
structure Val (f : RFun) (I : IV) : Prop where
  z : ∀ v, v < 201 → (I 0 v = true ↔ ∃ p ∈ f.params, p.toNat = v)
  b : ∀ b v, v < 201 → I b v = false → Bare f v b
theorem Val.turn {f : RFun} {I : IV} {a to : Nat} {x : RBlk} {out : VS} (h : Val f I) (ha : f.blocks[a]? = some x) (ht : (to : Int) ∈ toL x.term) (h0 : to ≠ 0) (ho : ∀ v, v < 201 → out v = false → Bare f v a ∧ ∀ i ∈ x.ins, (defI i).toNat ≠ v) :
    Val f (setI I to fun v => I to v && out v) := by
  refine ⟨fun v hv => ?_, fun b v hv hb => ?_⟩
  · unfold setI; rw [if_neg (fun e => h0 e.symm)]; exact h.z v hv
  · unfold setI at hb
    by_cases e : b = to
    · rw [if_pos e, Bool.and_eq_false_iff] at hb
      rw [e]
      rcases hb with hb | hb
      · exact h.b to v hv hb
      · obtain ⟨h1, h2⟩ := ho v hv hb
        exact .step h1 ha h2 ht
    · rw [if_neg e] at hb
      exact h.b b v hv hb
theorem Val.out {f : RFun} {I : IV} {a : Nat} {x : RBlk} (h : Val f I) : ∀ v, v < 201 → outV x.ins (I a) v = false → Bare f v a ∧ ∀ i ∈ x.ins, (defI i).toNat ≠ v := fun v hv ho => by
  have hn : ¬ (I a v = true ∨ ∃ i ∈ x.ins, (defI i).toNat = v) := fun h2 => by rw [outV_iff.2 h2] at ho; cases ho
  refine ⟨h.b a v hv ?_, fun i hi e => hn (.inr ⟨i, hi, e⟩)⟩
  cases hc : I a v with
  | false => rfl
  | true => exact absurd (.inl hc) hn
/-- Nothing is turned by a block's edge. -/
def Stab (I : IV) (out : VS) (to : Nat) : Prop := ∀ v, v < 201 → I to v = true → out v = true
theorem Val.fin {f : RFun} {I : IV} (h : Val f I) (hs : ∀ (a : Nat) (x : RBlk), f.blocks[a]? = some x → ∀ to : Nat, (to : Int) ∈ toL x.term → Stab I (outV x.ins (I a)) to) {b v : Nat} (hv : v < 201) : I b v = false ↔ Bare f v b := by
  refine ⟨h.b b v hv, fun hb => ?_⟩
  induction hb with
  | zero hp =>
    cases hc : I 0 v with
    | false => rfl
    | true =>
      obtain ⟨p, hp1, hp2⟩ := (h.z v hv).1 hc
      exact absurd hp2 (hp p hp1)
  | @step a b x _ ha hd ht ih =>
    cases hc : I b v with
    | false => rfl
    | true =>
      have := hs a x ha b ht v hv hc
      rw [outV_iff] at this
      rcases this with h1 | ⟨i, hi, h1⟩
      · rw [ih] at h1; cases h1
      · exact absurd h1 (hd i hi)
theorem valued_of {f : RFun} {I : IV} (h : ∀ b v, v < 201 → (I b v = false ↔ Bare f v b)) : valuedF f = (List.range f.blocks.length).all fun b => match f.blocks[b]? with
    | some x => okPast x.ins x.term (I b)
    | none => true := by
  rw [Bool.eq_iff_iff, valuedF_iff, List.all_eq_true]
  constructor
  · intro hv b hb
    have hb : b < f.blocks.length := by simpa using hb
    rw [List.getElem?_eq_getElem hb]
    show okPast _ _ _ = true
    rw [okPast_iff]
    intro v he
    have hr := exposed_range he
    have := hv b _ v (List.getElem?_eq_getElem hb) he
    cases hc : I b v.toNat with
    | true => rfl
    | false => exact absurd ((h b v.toNat (by omega)).1 hc) this
  · intro hv b x v hx he hb
    have hr := exposed_range he
    have h1 := hv b (by simpa using (List.getElem?_eq_some_iff.1 hx).1)
    rw [hx] at h1
    have h2 := okPast_iff.1 h1 v he
    rw [(h b v.toNat (by omega)).2 hb] at h2
    cases h2

/-! ### How much is left -/
theorem cntB_succ (n : Nat) (T : Nat → Bool) : cntB (n + 1) T = cntB n T + (if T n then 1 else 0) := by
  unfold cntB
  rw [List.range_succ, List.filter_append, List.length_append]
  cases hT : T n <;> simp [hT]
theorem cntB_mono {S T : Nat → Bool} : ∀ {n : Nat}, (∀ i, i < n → S i = true → T i = true) → cntB n S ≤ cntB n T
  | 0, _ => by simp [cntB]
  | n + 1, h => by
    rw [cntB_succ, cntB_succ]
    have h1 := cntB_mono (n := n) fun i hi => h i (by omega)
    have h2 := h n (by omega)
    cases hS : S n with
    | false => simp only [Bool.false_eq_true, if_false]; omega
    | true => rw [h2 hS]; simp only [if_true]; omega
theorem cntB_lt {S T : Nat → Bool} {i : Nat} : ∀ {n : Nat}, (∀ i, i < n → S i = true → T i = true) → i < n → S i = false → T i = true → cntB n S < cntB n T
  | 0, _, h, _, _ => by omega
  | n + 1, h, hi, h1, h2 => by
    rw [cntB_succ, cntB_succ]
    by_cases e : i = n
    · subst e
      have h3 := cntB_mono (n := i) fun j hj => h j (by omega)
      rw [h1, h2]; simp only [Bool.false_eq_true, if_false, if_true]; omega
    · have h3 := cntB_lt (n := n) (fun j hj => h j (by omega)) (by omega) h1 h2
      have h4 := h n (by omega)
      cases hS : S n with
      | false => simp only [Bool.false_eq_true, if_false]; omega
      | true => rw [h4 hS]; simp only [if_true]; omega
def muI (n : Nat) (I : IV) : Nat := ((List.range n).map fun b => cntB 201 (I b)).sum
theorem muI_set {I : IV} {to : Nat} {s : VS} : ∀ {n : Nat}, to < n → cntB 201 s < cntB 201 (I to) → muI n (setI I to s) < muI n I
  | 0, h, _ => by omega
  | n + 1, h, h2 => by
    have hs : ∀ J : IV, muI (n + 1) J = muI n J + cntB 201 (J n) := fun J => by unfold muI; rw [List.range_succ, List.map_append, List.sum_append]; simp
    rw [hs, hs]
    by_cases e : to = n
    · subst e
      have h3 : muI to (setI I to s) = muI to I := by
        unfold muI
        congr 1
        apply List.map_congr_left
        intro b hb
        have : b < to := by simpa using hb
        unfold setI; rw [if_neg (by omega)]
      have h4 : setI I to s to = s := by unfold setI; rw [if_pos rfl]
      rw [h3, h4]; omega
    · have h3 := muI_set (I := I) (s := s) (n := n) (by omega) h2
      have h4 : setI I to s n = I n := by unfold setI; rw [if_neg (fun e2 => e e2.symm)]
      rw [h4]; omega
/-! ### How they lie -/
def sameV (s t : VS) : Bool := (List.range 201).all fun v => s v == t v
theorem sameV_iff {s t : VS} : sameV s t = true ↔ encV s = encV t := by
  unfold sameV
  rw [List.all_eq_true]
  constructor
  · exact fun h => encV_congr fun i hi => by simpa using h i (by simpa using hi)
  · exact fun h i hi => by simpa using encV_inj h (by simpa using hi)
theorem sameV_at {s t : VS} (h : sameV s t = true) {v : Nat} (hv : v < 201) : s v = t v := encV_inj (sameV_iff.1 h) hv
def inA (n : Nat) (I : IV) : Array Value := rngV (n * 201) fun q => .bool (I (q / 201) (q % 201))
theorem inA_size (n : Nat) (I : IV) : (inA n I).size = n * 201 := rngV_size _ _
theorem inA_get {n b v : Nat} {I : IV} (hb : b < n) (hv : v < 201) : (inA n I)[b * 201 + v]? = some (.bool (I b v)) := by
  unfold inA
  have h1 : b * 201 + v < n * 201 := by
    have : (b + 1) * 201 ≤ n * 201 := Nat.mul_le_mul_right _ hb
    omega
  rw [rngV_get h1]
  have h2 : (b * 201 + v) / 201 = b := by omega
  have h3 : (b * 201 + v) % 201 = v := by omega
  rw [h2, h3]
theorem inA_put {n b v : Nat} {I : IV} {u : Bool} (hv : v < 201) : (inA n I).setIfInBounds (b * 201 + v) (.bool u) = inA n (setI I b (putV (I b) v u)) := by
  unfold inA
  rw [rngV_set]
  refine rngV_congr fun q hq => ?_
  unfold setI putV
  by_cases e : q = b * 201 + v
  · have h2 : q / 201 = b := by omega
    have h3 : q % 201 = v := by omega
    rw [if_pos e, if_pos h2, if_pos h3]
  · rw [if_neg e]
    by_cases h2 : q / 201 = b
    · rw [if_pos h2, if_neg (by omega), h2]
    · rw [if_neg h2]
theorem inA_sta {n b : Nat} {I : IV} {s : VS} (hb : b < n) : ((inA n I).toList.take (b * 201) ++ (encV s).toList ++ (inA n I).toList.drop (b * 201 + 201)).toArray = inA n (setI I b s) := by
  have hle : (b + 1) * 201 ≤ n * 201 := Nat.mul_le_mul_right _ hb
  have hsz := inA_size n I
  apply Array.ext'
  apply List.ext_getElem?
  intro q
  have hl1 : ((inA n I).toList.take (b * 201)).length = b * 201 := by simp [hsz]; omega
  have hl2 : (encV s).toList.length = 201 := by simp [encV]
  have hget : ∀ (J : IV) (q : Nat), q < n * 201 → (inA n J)[q]? = some (.bool (J (q / 201) (q % 201))) := fun J q hq => rngV_get hq
  rw [Array.getElem?_toList (xs := inA n (setI I b s))]
  show ((inA n I).toList.take (b * 201) ++ (encV s).toList ++ (inA n I).toList.drop (b * 201 + 201))[q]? = _
  by_cases h1 : q < b * 201
  · rw [List.append_assoc, List.getElem?_append_left (by omega), List.getElem?_take, if_pos h1, Array.getElem?_toList, hget I q (by omega), hget _ q (by omega)]
    unfold setI; rw [if_neg (by omega)]
  · by_cases h2 : q < b * 201 + 201
    · rw [List.append_assoc, List.getElem?_append_right (by omega), hl1, List.getElem?_append_left (by omega), Array.getElem?_toList, encV_get (by omega), hget _ q (by omega)]
      unfold setI
      rw [if_pos (by omega), show q - b * 201 = q % 201 by omega]
    · rw [List.getElem?_append_right (by simp only [List.length_append]; omega), List.length_append, hl1, hl2, List.getElem?_drop, Array.getElem?_toList, show b * 201 + 201 + (q - (b * 201 + 201)) = q by omega]
      by_cases h3 : q < n * 201
      · rw [hget I q h3, hget _ q h3]
        unfold setI; rw [if_neg (by omega)]
      · rw [Array.getElem?_eq_none (by omega), Array.getElem?_eq_none (by rw [inA_size]; omega)]
theorem inA_congr {n : Nat} {I J : IV} (h : ∀ b v, b < n → v < 201 → I b v = J b v) : inA n I = inA n J := rngV_congr fun q hq => by rw [h _ _ (by omega) (Nat.mod_lt _ (by decide))]
theorem inA_load {n b : Nat} {I : IV} (hb : b < n) : ∀ (j : Nat) (u : Value), (encV (I b)).toList[j]? = some u → (inA n I)[b * 201 + j]? = some u := fun j u hu => by
  have hj : j < 201 := by have := (List.getElem?_eq_some_iff.1 hu).1; simpa [encV] using this
  rw [inA_get hb hj]
  rw [Array.getElem?_toList, encV_get hj] at hu
  exact hu
theorem made_inA (n : Nat) : (madeCells (Array.replicate 201 (Value.bool false)) (n * 201)) = inA n fun _ _ => false := by
  apply Array.ext'
  apply List.ext_getElem?
  intro i
  rw [Array.getElem?_toList, Array.getElem?_toList]
  by_cases h : i < n * 201
  · unfold inA
    rw [rngV_get h]
    have : i % 201 < 201 := Nat.mod_lt _ (by decide)
    simp [madeCells, h, this]
  · have h1 : (madeCells (Array.replicate 201 (Value.bool false)) (n * 201))[i]? = none := Array.getElem?_eq_none (by simp [madeCells]; omega)
    have h2 : (inA n fun _ _ => false)[i]? = none := Array.getElem?_eq_none (by rw [inA_size]; omega)
    rw [h1, h2]
theorem encV_tell {s t : VS} : ∀ (i : Nat) (a b : Value), (encV s)[i]? = some a → (encV t)[i]? = some b → Tell .bool a b := fun i a b ha hb => by
  have hi : i < 201 := by have := (Array.getElem?_eq_some_iff.1 ha).1; simpa [encV] using this
  rw [encV_get hi] at ha hb
  cases ha; cases hb
  exact Tell.bool
end Go.Proofs.YtjenaenakopicaaGreat

/- The package flow: edges, walked. -/
namespace Go.Proofs.YtjenaenakopicaaGreat
set_option linter.unusedVariables false
open Go Go.RowKit
set_option maxRecDepth 100000

theorem RBlk.one (b : RBlk) : ∀ u ∈ b.cells, u.oneCell' = true := by
  intro u hu
  simp only [RBlk.cells, Tm.cells, List.mem_cons, List.not_mem_nil, or_false] at hu
  rcases hu with rfl | rfl | rfl | rfl | rfl <;> rfl
def ysE (ts : List Tm) : List (List Value) := (edges ts).map fun e => [e.val]
/-- A function value that tells whether something is so of edges. -/
def TellsE (P : Program) (w : World) (g : FuncId) (fst cap : Array Value) (ts : List Tm) (p : Ed → Bool) : Prop := Ent P g ∧ ∀ e ∈ edges ts, ∀ w', Below w.heap.size w w' → Ct P g (fst ++ #[e.val] ++ cap) w' (Is (.bool (p e)))
theorem closed_len {ts : List Tm} (h : closed ts = true) : 0 < ts.length ∧ ts.length ≤ 200 ∧ ∀ e ∈ edges ts, 0 ≤ e.to ∧ e.to < (ts.length : Int) := by
  unfold closed at h
  simp only [Bool.and_eq_true, decide_eq_true_eq, List.all_eq_true] at h
  exact ⟨h.1.2, h.2, fun e he => h.1.1 e he⟩
end Go.Proofs.YtjenaenakopicaaGreat

/- The package ir: what is behind a block; long, whole functions: walked. -/
namespace Go.Proofs.YtjenaenakopicaaGreat
set_option linter.unusedVariables false
open Go Go.RowKit
set_option maxRecDepth 100000

/-- A function value that tells whether something is so of what a list holds. -/
def TellsG {α : Type} (P : Program) (w : World) (g : FuncId) (fst cap : Array Value) (l : List α) (v : α → Value) (p : α → Bool) : Prop := Ent P g ∧ ∀ x ∈ l, ∀ w', Below w.heap.size w w' → Ct P g (fst ++ #[v x] ++ cap) w' (Is (.bool (p x)))
theorem blk_cell {l : List RBlk} {k j : Nat} {b : RBlk} {u : Value} (hk : l[k]? = some b) (hu : b.cells[j]? = some u) : (l.flatMap RBlk.cells)[k * 5 + j]? = some u := by
  rw [flat_get RBlk.len _ _ _ _ hk (by have := (List.getElem?_eq_some_iff.1 hu).1; rw [RBlk.len] at this; exact this)]; exact hu
theorem setReads {w' : World} {B i g : Nat} {w0 : World} {M L : List Res} {s : VS} {e : TypeId} (hh : Hp w0 B (M ++ L) w') (hi : L[i]? = some (blk g (.cells (encV s) e))) : Reads w' w'.heap.size 1 (some ⟨g, 0, none⟩) 201 (encV s).toList :=
  Reads.blk hh hi (by simp [encV]) (fun j u hu => by simpa using hu)
section
theorem slices_IndexFunc_Ins_ct {w : World} {A : Option Addr} {c : Nat} {l : List RIns} {g : FuncId} {fst cap : Array Value} {p : RIns → Bool} (hl : Reads w w.heap.size 8 A l.length (l.flatMap RIns.cells)) (hb : l.length < 2 ^ 62) (hf : TellsG Tryz.prog w g fst cap l RIns.val p) :
    Ct Tryz.prog 155 #[.slice A l.length c, .func (.func g) fst cap] w (Is (.int .i64 (indexI p l))) := by
  refine Ct.mk Tryz.func155 rfl rfl ?_
  refine Cd.seq ?_
  refine Cd.region ?_
  refine Ol.p asi ?_
  refine Ol.nil ?_
  refine Cd.seq ?_
  refine Cd.seq ?_
  refine Cd.region ?_
  refine Ol.p mvs ?_
  refine Ol.p (lens sl_L_api_Ins) ?_
  refine Ol.p mvi ?_
  refine Ol.nil ?_
  refine Cd.block ?_
  refine Cd.loop (fun m σ L => ∃ k, m = l.length - k ∧ k ≤ l.length ∧ Has σ [(0, .slice A l.length c), (1, .func (.func g) fst cap), (7, .int .i64 l.length), (8, .int .i64 k)] ∧ L = [] ∧ ∀ i y, i < k → l[i]? = some y → p y = false) (n := l.length) ⟨0, rfl, Nat.zero_le _, ⟨rfl, rfl, rfl, rfl, trivial⟩, rfl, fun i y h => by omega⟩ ?_
  rintro _ σ L ⟨k, rfl, hk, hs, rfl, hno⟩
  refine Cd.has hs ?_
  refine Cd.seq ?_
  refine Cd.region ?_
  refine Ol.p lsi ?_
  refine Ol.nil ?_
  refine Cd.seq ?_
  refine Cd.cond rfl (fun h => ?_) (fun h => ?_)
  · have hlt : k < l.length := by
      simp only [decide_eq_true_eq] at h; omega
    obtain ⟨x, hx⟩ : ∃ x, l[k]? = some x := ⟨_, List.getElem?_eq_getElem hlt⟩
    refine Cd.skip ?_
    refine Cd.seq ?_
    refine Cd.block ?_
    refine Cd.seq ?_
    refine Cd.region ?_
    refine Ol.p mvi ?_
    refine Ol.p asi ?_
    refine Ol.nil ?_
    refine Cd.seq ?_
    refine Cd.region ?_
    refine Ol.p mvf ?_
    refine Ol.p mvs ?_
    refine Ol.p mvi ?_
    refine Ol.p (ixn sl_L_api_Ins (Som.slc hl (by omega))) ?_
    refine Ol.p (lds (es := x.cells) ag_api_Ins hl x.len (fun j u hu => ins_cell hx hu)) ?_
    refine Ol.x (sp_callv hf.1 (fun M w' hh => hf.2 x (List.mem_of_getElem? hx) w' hh.below)) ?_
    rintro _ _ ⟨_, rfl, rfl, rfl⟩
    refine Ol.nil ?_
    refine Cd.cond rfl (fun h2 => ?_) (fun h2 => ?_)
    · refine Cd.seq ?_
      refine Cd.region ?_
      refine Ol.p mvi ?_
      refine Ol.p asi ?_
      refine Ol.nil ?_
      refine Cd.ret ⟨_, ret1 rfl rfl, [], .nil, ?_, rfl⟩
      rw [indexI_at hx h2 hno]
      rfl
    · refine Cd.skip ?_
      refine Cd.region ?_
      refine Ol.p addi ?_
      refine Ol.p mvi ?_
      refine Ol.nil ?_
      refine ⟨l.length - (k + 1), by omega, k + 1, rfl, by omega, ⟨rfl, rfl, rfl, rfl, trivial⟩, rfl, ?_⟩
      intro i y hi hy
      rcases Nat.lt_or_ge i k with h3 | h3
      · exact hno i y h3 hy
      · have : i = k := by omega
        subst this
        rw [hx] at hy
        cases hy
        exact h2
  · have hge : k = l.length := by
      simp only [decide_eq_false_iff_not] at h; omega
    subst hge
    refine Cd.exit (id := 0) ?_
    refine Cd.seq ?_
    refine Cd.region ?_
    refine Ol.p asi ?_
    refine Ol.nil ?_
    refine Cd.ret ⟨_, ret1 rfl rfl, [], .nil, ?_, rfl⟩
    rw [indexI_none hno]
    rfl
theorem slices_ContainsFunc_Ins_ct {w : World} {A : Option Addr} {c : Nat} {l : List RIns} {g : FuncId} {fst cap : Array Value} {p : RIns → Bool} (hl : Reads w w.heap.size 8 A l.length (l.flatMap RIns.cells)) (hb : l.length < 2 ^ 62) (hf : TellsG Tryz.prog w g fst cap l RIns.val p) :
    Ct Tryz.prog 128 #[.slice A l.length c, .func (.func g) fst cap] w (Is (.bool (l.any p))) := by
  refine Ct.mk Tryz.func128 rfl rfl ?_
  refine Cd.seq ?_
  refine Cd.region ?_
  refine Ol.p asb ?_
  refine Ol.nil ?_
  refine Cd.seq ?_
  refine Cd.region ?_
  refine Ol.p mvs ?_
  refine Ol.p mvf ?_
  refine Ol.s (cl en_slices_IndexFunc_L_api_Ins_api_Ins (fun M w' hh => slices_IndexFunc_Ins_ct (hl.now hh) hb ⟨hf.1, fun n hn w2 h2 => hf.2 n hn w2 (hh.below.trans (h2.mono hh.le))⟩)) ?_
  refine Ol.p gei ?_
  refine Ol.p asb ?_
  refine Ol.nil ?_
  refine Cd.ret ⟨.bool _, ret1 rfl rfl, [], .nil, ?_, rfl⟩
  rw [indexI_ge]
end
section
theorem slices_IndexFunc_Block_ct {w : World} {A : Option Addr} {c : Nat} {l : List RBlk} {g : FuncId} {fst cap : Array Value} {p : RBlk → Bool} (hl : Reads w w.heap.size 5 A l.length (l.flatMap RBlk.cells)) (hb : l.length < 2 ^ 62) (hf : TellsG Tryz.prog w g fst cap l RBlk.val p) :
    Ct Tryz.prog 154 #[.slice A l.length c, .func (.func g) fst cap] w (Is (.int .i64 (indexI p l))) := by
  refine Ct.mk Tryz.func154 rfl rfl ?_
  refine Cd.seq ?_
  refine Cd.region ?_
  refine Ol.p asi ?_
  refine Ol.nil ?_
  refine Cd.seq ?_
  refine Cd.seq ?_
  refine Cd.region ?_
  refine Ol.p mvs ?_
  refine Ol.p (lens sl_L_api_Block) ?_
  refine Ol.p mvi ?_
  refine Ol.nil ?_
  refine Cd.block ?_
  refine Cd.loop (fun m σ L => ∃ k, m = l.length - k ∧ k ≤ l.length ∧ Has σ [(0, .slice A l.length c), (1, .func (.func g) fst cap), (7, .int .i64 l.length), (8, .int .i64 k)] ∧ L = [] ∧ ∀ i y, i < k → l[i]? = some y → p y = false) (n := l.length) ⟨0, rfl, Nat.zero_le _, ⟨rfl, rfl, rfl, rfl, trivial⟩, rfl, fun i y h => by omega⟩ ?_
  rintro _ σ L ⟨k, rfl, hk, hs, rfl, hno⟩
  refine Cd.has hs ?_
  refine Cd.seq ?_
  refine Cd.region ?_
  refine Ol.p lsi ?_
  refine Ol.nil ?_
  refine Cd.seq ?_
  refine Cd.cond rfl (fun h => ?_) (fun h => ?_)
  · have hlt : k < l.length := by
      simp only [decide_eq_true_eq] at h; omega
    obtain ⟨x, hx⟩ : ∃ x, l[k]? = some x := ⟨_, List.getElem?_eq_getElem hlt⟩
    refine Cd.skip ?_
    refine Cd.seq ?_
    refine Cd.block ?_
    refine Cd.seq ?_
    refine Cd.region ?_
    refine Ol.p mvi ?_
    refine Ol.p asi ?_
    refine Ol.nil ?_
    refine Cd.seq ?_
    refine Cd.region ?_
    refine Ol.p mvf ?_
    refine Ol.p mvs ?_
    refine Ol.p mvi ?_
    refine Ol.p (ixn sl_L_api_Block (Som.slc hl (by omega))) ?_
    refine Ol.p (lds (es := x.cells) ag_api_Block hl x.len (fun j u hu => blk_cell hx hu)) ?_
    refine Ol.x (sp_callv hf.1 (fun M w' hh => hf.2 x (List.mem_of_getElem? hx) w' hh.below)) ?_
    rintro _ _ ⟨_, rfl, rfl, rfl⟩
    refine Ol.nil ?_
    refine Cd.cond rfl (fun h2 => ?_) (fun h2 => ?_)
    · refine Cd.seq ?_
      refine Cd.region ?_
      refine Ol.p mvi ?_
      refine Ol.p asi ?_
      refine Ol.nil ?_
      refine Cd.ret ⟨_, ret1 rfl rfl, [], .nil, ?_, rfl⟩
      rw [indexI_at hx h2 hno]
      rfl
    · refine Cd.skip ?_
      refine Cd.region ?_
      refine Ol.p addi ?_
      refine Ol.p mvi ?_
      refine Ol.nil ?_
      refine ⟨l.length - (k + 1), by omega, k + 1, rfl, by omega, ⟨rfl, rfl, rfl, rfl, trivial⟩, rfl, ?_⟩
      intro i y hi hy
      rcases Nat.lt_or_ge i k with h3 | h3
      · exact hno i y h3 hy
      · have : i = k := by omega
        subst this
        rw [hx] at hy
        cases hy
        exact h2
  · have hge : k = l.length := by
      simp only [decide_eq_false_iff_not] at h; omega
    subst hge
    refine Cd.exit (id := 0) ?_
    refine Cd.seq ?_
    refine Cd.region ?_
    refine Ol.p asi ?_
    refine Ol.nil ?_
    refine Cd.ret ⟨_, ret1 rfl rfl, [], .nil, ?_, rfl⟩
    rw [indexI_none hno]
    rfl
theorem slices_ContainsFunc_Block_ct {w : World} {A : Option Addr} {c : Nat} {l : List RBlk} {g : FuncId} {fst cap : Array Value} {p : RBlk → Bool} (hl : Reads w w.heap.size 5 A l.length (l.flatMap RBlk.cells)) (hb : l.length < 2 ^ 62) (hf : TellsG Tryz.prog w g fst cap l RBlk.val p) :
    Ct Tryz.prog 126 #[.slice A l.length c, .func (.func g) fst cap] w (Is (.bool (l.any p))) := by
  refine Ct.mk Tryz.func126 rfl rfl ?_
  refine Cd.seq ?_
  refine Cd.region ?_
  refine Ol.p asb ?_
  refine Ol.nil ?_
  refine Cd.seq ?_
  refine Cd.region ?_
  refine Ol.p mvs ?_
  refine Ol.p mvf ?_
  refine Ol.s (cl en_slices_IndexFunc_L_api_Block_api_Block (fun M w' hh => slices_IndexFunc_Block_ct (hl.now hh) hb ⟨hf.1, fun n hn w2 h2 => hf.2 n hn w2 (hh.below.trans (h2.mono hh.le))⟩)) ?_
  refine Ol.p gei ?_
  refine Ol.p asb ?_
  refine Ol.nil ?_
  refine Cd.ret ⟨.bool _, ret1 rfl rfl, [], .nil, ?_, rfl⟩
  rw [indexI_ge]
end
section
set_option maxHeartbeats 1000000 in
theorem ir_set_past_ct {w : World} {s : VS} {b : RBlk} (hb : BlkAt w b) : Ct Tryz.prog 132 #[.agg (encV s), b.val] w (fun v R => ∃ s', v = .tuple #[.agg (encV s'), .bool (okPast b.ins b.term s)] ∧ R = []) := by
  have hbl := hb.len
  refine Ct.mk Tryz.func132 rfl rfl ?_
  refine Cd.seq ?_
  refine Cd.region ?_
  refine Ol.x bxg ?_
  rintro _ _ ⟨g2, rfl, rfl⟩
  refine Ol.x bxg ?_
  rintro _ _ ⟨g3, rfl, rfl⟩
  refine Ol.x (alc zr_ir_set) ?_
  rintro _ _ ⟨g4, rfl, rfl⟩
  refine Ol.p asb ?_
  refine Ol.nil ?_
  refine Cd.seq ?_
  refine Cd.seq ?_
  refine Cd.region ?_
  refine Ol.p (fdl fd_api_Block_0) ?_
  refine Ol.p (ld one_L_api_Ins (Rd.blk (i := 1) rfl rfl)) ?_
  refine Ol.p (lens sl_L_api_Ins) ?_
  refine Ol.p mvi ?_
  refine Ol.nil ?_
  obtain ⟨Z, hZ⟩ : ∃ Z, Z = encV fun _ => false := ⟨_, rfl⟩
  refine Cd.block ?_   -- 0
  refine Cd.loop (fun m σ L => ∃ k s', m = b.ins.length - k ∧ k ≤ b.ins.length ∧ Has σ [(2, .pointer (some ⟨g2, 0, none⟩)), (3, .pointer (some ⟨g3, 0, none⟩)), (4, .pointer (some ⟨g4, 0, none⟩)), (9, .slice b.iA b.ins.length b.iC), (10, .int .i64 b.ins.length), (11, .int .i64 k)] ∧ [blk g4 (.cells Z 145), blk g3 (.cells b.cells.toArray 34), blk g2 (.cells (encV s') 145)] = L ∧ okPast (b.ins.drop k) b.term s' = okPast b.ins b.term s) (n := b.ins.length) ⟨0, s, rfl, Nat.zero_le _, ⟨rfl, rfl, rfl, rfl, rfl, rfl, trivial⟩, by rw [hZ, ← zeroV]; rfl, rfl⟩ ?_
  rintro _ σ L ⟨k, s', rfl, hk, hs, rfl, hok⟩
  refine Cd.has hs ?_
  refine Cd.seq ?_
  refine Cd.region ?_
  refine Ol.p lsi ?_
  refine Ol.nil ?_
  refine Cd.seq ?_
  refine Cd.cond rfl (fun h => ?_) (fun h => ?_)   -- $12
  · have hlt : k < b.ins.length := by
      simp only [decide_eq_true_eq] at h; omega
    obtain ⟨i, hi⟩ : ∃ i, b.ins[k]? = some i := ⟨_, List.getElem?_eq_getElem hlt⟩
    have him := List.mem_of_getElem? hi
    have hia := hb.all i him
    have hdr : b.ins.drop k = i :: b.ins.drop (k + 1) := by
      rw [List.drop_eq_getElem_cons hlt, (List.getElem?_eq_some_iff.1 hi).2]
    rw [hdr] at hok
    have hdef := defI_range i
    obtain ⟨dn, hdn⟩ : ∃ dn : Nat, defI i = (dn : Int) := ⟨(defI i).toNat, by omega⟩
    have hdn2 : dn < 201 := by omega
    have hrl := readsL_len i
    refine Cd.skip ?_
    refine Cd.seq ?_
    refine Cd.block ?_   -- 1
    refine Cd.seq ?_
    refine Cd.region ?_
    refine Ol.p (ixn sl_L_api_Ins (Som.slc hb.ins (by omega))) ?_
    refine Ol.p (lds (es := i.cells) ag_api_Ins hb.ins i.len (fun j u hu => ins_cell hi hu)) ?_
    refine Ol.x (alc zr_api_Ins) ?_
    rintro _ _ ⟨g7, rfl, rfl⟩
    refine Ol.s (stw sz_api_Ins rfl i.one (i := 0) rfl rfl) ?_
    refine Ol.nil ?_
    refine Cd.seq ?_
    refine Cd.seq ?_
    refine Cd.region ?_
    refine Ol.p (ldw ag_api_Ins (i := 0) rfl rfl) ?_
    refine Ol.x (sp_call en_ir_Reads (fun M w' hh => ir_Reads_ct (hia.now hh))) ?_
    rintro _ _ ⟨_, rfl, A16, c16, rfl, rfl⟩
    refine Ol.s (cl en_P_ir_set_has (fun M w' hh => P_ir_set_has_ct (setReads hh (i := 4) rfl) (Reads.row hh (i := 0) rfl) (by omega) (fun n hn => by have := readsL_mem hn; omega))) ?_
    refine Ol.p noti ?_
    refine Ol.nil ?_
    refine Cd.cond rfl (fun h2 => ?_) (fun h2 => ?_)   -- $18
    · have h3 : hasV s' (readsL i) = false := by simpa using h2
      refine Cd.seq ?_
      refine Cd.region ?_
      refine Ol.p (ldw ag_ir_set (i := 4) rfl (encV_size _)) ?_
      refine Ol.s (stw sz_ir_set (encV_size _) (encV_one _) (i := 2) rfl (by rw [hZ]; exact encV_size _)) ?_
      refine Ol.p asb ?_
      refine Ol.nil ?_
      refine Cd.ret ⟨.tuple _, retct rfl ag_ir_set rfl rfl (i := 2) rfl (encV_size _), [], .nil, s', ?_, rfl⟩
      rw [← hok]
      show _ = Value.tuple #[_, .bool (hasV s' (readsL i) && _)]
      rw [h3]; rfl
    have h3 : hasV s' (readsL i) = true := by simpa using h2
    have hok2 : okPast (b.ins.drop (k + 1)) b.term (putV s' dn true) = okPast b.ins b.term s := by
      rw [← hok]
      show _ = (hasV s' (readsL i) && okPast (b.ins.drop (k + 1)) b.term (putV s' (defI i).toNat true))
      rw [h3, hdn, Bool.true_and, Int.toNat_natCast]
    refine Cd.skip ?_
    refine Cd.region ?_
    refine Ol.p (ldw ag_api_Ins (i := 1) rfl rfl) ?_
    refine Ol.s (cl en_ir_Defines (fun M w' hh => ir_Defines_ct (hia.now hh))) ?_
    refine Ol.p (ixl1 (ix := dn) ar_ir_set (hy := congrArg (Value.int .i64) hdn)) ?_
    refine Ol.s (sto (k := dn) (.inr sz_bool) rfl rfl (i := 4) rfl (by rw [encV_size]; exact hdn2) rfl) ?_
    refine Ol.keep (.sub (.cons _ (.cons _ (List.Sublist.refl _)))) ?_
    refine Ol.nil ?_
    refine Cd.region ?_
    refine Ol.p addi ?_
    refine Ol.p mvi ?_
    refine Ol.nil ?_
    exact ⟨b.ins.length - (k + 1), by omega, k + 1, putV s' dn true, rfl, by omega, ⟨rfl, rfl, rfl, rfl, rfl, rfl, trivial⟩, congrArg (fun cs => [blk g4 (.cells Z 145), blk g3 (.cells b.cells.toArray 34), blk g2 (.cells cs 145)]) encV_set.symm, hok2⟩
  have hk2 : k = b.ins.length := by
    simp only [decide_eq_false_iff_not] at h; omega
  subst hk2
  rw [List.drop_length] at hok
  refine Cd.exit (id := 0) ?_
  refine Cd.seq ?_
  have hnl := needsL_len b.term
  refine Cd.draw mixed 5 (fun opNo => match opNo with | 3 => some (NewL 3 1 (needsL b.term).length (ints (needsL b.term))) | 4 => some (Is (.bool (hasV s' (needsL b.term)))) | _ => none) (fun opNo => match opNo with | 4 => [3] | _ => []) (by kernel_rfl) (by intro q V h; split at h <;> cases h; exact ⟨_, _, none, 0, rfl, rfl⟩; exact ⟨_, [], rfl, rfl⟩) (fun u hu => ?_)
  refine Wk.p (ldw ag_ir_set (i := 2) rfl (encV_size _)) ?_
  refine Wk.p (fdl fd_api_Block_1) ?_
  refine Wk.p (ldp (k := 0 + 1) (vs := b.term.cells.toArray) ag_api_Term (i := 1) rfl rfl (fun j u hu => by rw [Nat.zero_add, Nat.add_comm]; simpa [RBlk.cells] using hu)) ?_
  refine Wk.x (V := NewL 3 1 (needsL b.term).length (ints (needsL b.term))) hu (sp_call en_ir_Needs (fun M w' hh => ir_Needs_ct (t := b.term))) ?_
  rintro _ _ hu3 ⟨A27, c27, rfl, rfl⟩
  refine Wk.xn (V := Is (.bool (hasV s' (needsL b.term)))) hu (l := [3]) rfl (by simp) (by rw [needs_cons hu3, needs_none]; exact (sp_call en_P_ir_set_has (fun M w' hh => P_ir_set_has_ct (setReads hh (i := 3) rfl) (Reads.row hh (i := 0) rfl) (by omega) (fun n hn => by have := needsL_mem hn; omega)))) ?_
  rintro _ _ hu4 ⟨rfl, rfl⟩
  refine Wk.nil ?_
  rw [needs_cons hu4, needs_cons hu3, needs_none]
  refine Ol.s (stw sz_ir_set (encV_size _) (encV_one _) (i := 1) rfl (by rw [hZ]; exact encV_size _)) ?_
  refine Ol.p asb ?_
  refine Ol.nil ?_
  refine Cd.ret ⟨.tuple _, retct rfl ag_ir_set rfl rfl (i := 1) rfl (encV_size _), [], .nil, s', ?_, rfl⟩
  rw [← hok]; rfl
end
section
theorem ir_long_1_ct {w : World} {b : RBlk} : Ct Tryz.prog 127 #[b.val] w (Is (.bool (decide (64 < b.ins.length)))) := by
  refine Ct.mk Tryz.func127 rfl rfl ?_
  refine Cd.seq ?_
  refine Cd.region ?_
  refine Ol.x bxg ?_
  rintro _ _ ⟨g1, rfl, rfl⟩
  refine Ol.p asb ?_
  refine Ol.nil ?_
  refine Cd.seq ?_
  refine Cd.region ?_
  refine Ol.p (fdl fd_api_Block_0) ?_
  refine Ol.p (ld one_L_api_Ins (Rd.blk (i := 0) rfl rfl)) ?_
  refine Ol.p (lens sl_L_api_Ins) ?_
  refine Ol.p gti ?_
  refine Ol.p asb ?_
  refine Ol.nil ?_
  refine Cd.ret ⟨.bool _, ret1 rfl rfl, [], .nil, ?_, rfl⟩
  congr 1
  rw [decide_eq_decide]; omega
set_option maxHeartbeats 1000000 in
theorem ir_long_ct {w : World} {f : RFun} (hf : FunAt w w.heap.size f) (hfit : Fit f) : Ct Tryz.prog 82 #[f.val] w (Is (.bool (longF f))) := by
  have hbl := hfit.blen
  have e1 : decide ((f.blocks.length : Int) = 0) = decide (f.blocks.length = 0) := by rw [decide_eq_decide]; omega
  have e2 : decide ((200 : Int) < (f.blocks.length : Int)) = decide (200 < f.blocks.length) := by rw [decide_eq_decide]; omega
  have e3 : decide ((8 : Int) < (f.params.length : Int)) = decide (8 < f.params.length) := by rw [decide_eq_decide]; omega
  have e : longF f = (decide (f.blocks.length = 0) || decide (200 < f.blocks.length) || decide (8 < f.params.length) || f.blocks.any fun b => decide (64 < b.ins.length)) := rfl
  refine Ct.mk Tryz.func82 rfl rfl ?_
  refine Cd.seq ?_
  refine Cd.region ?_
  refine Ol.x bxg ?_
  rintro _ _ ⟨g1, rfl, rfl⟩
  refine Ol.p asb ?_
  refine Ol.nil ?_
  refine Cd.seq ?_
  cases c1 : decide (f.blocks.length = 0) with
  | true =>
    refine Cd.region ?_
    refine Ol.p (fdl fd_api_Func_1) ?_
    refine Ol.p (ld one_L_api_Block (Rd.blk (i := 0) rfl rfl)) ?_
    refine Ol.p (lens sl_L_api_Block) ?_
    refine Ol.p eqi ?_
    refine Ol.p mvb ?_
    refine Ol.gn (e1.trans c1) ?_
    refine Ol.gn (e1.trans c1) ?_
    refine Ol.gn (e1.trans c1) ?_
    refine Ol.gn (e1.trans c1) ?_
    refine Ol.p (pkTb (e1.trans c1)) ?_
    refine Ol.p mvb ?_
    refine Ol.gn rfl ?_
    refine Ol.gn rfl ?_
    refine Ol.gn rfl ?_
    refine Ol.gn rfl ?_
    refine Ol.p (pkTb rfl) ?_
    refine Ol.p mvb ?_
    refine Ol.gn rfl ?_
    refine Ol.gn rfl ?_
    refine Ol.gn rfl ?_
    refine Ol.p (pkTb rfl) ?_
    refine Ol.p asb ?_
    refine Ol.nil ?_
    exact Cd.ret ⟨.bool _, ret1 rfl rfl, [], .nil, by rw [e, c1]; rfl, rfl⟩
  | false =>
  cases c2 : decide (200 < f.blocks.length) with
  | true =>
    refine Cd.region ?_
    refine Ol.p (fdl fd_api_Func_1) ?_
    refine Ol.p (ld one_L_api_Block (Rd.blk (i := 0) rfl rfl)) ?_
    refine Ol.p (lens sl_L_api_Block) ?_
    refine Ol.p eqi ?_
    refine Ol.p mvb ?_
    refine Ol.gp (e1.trans c1) (fdl fd_api_Func_1) ?_
    refine Ol.gp (e1.trans c1) (ld one_L_api_Block (Rd.blk (i := 0) rfl rfl)) ?_
    refine Ol.gp (e1.trans c1) (lens sl_L_api_Block) ?_
    refine Ol.gp (e1.trans c1) gti ?_
    refine Ol.p (pkFb (e1.trans c1)) ?_
    refine Ol.p mvb ?_
    refine Ol.gn (e2.trans c2) ?_
    refine Ol.gn (e2.trans c2) ?_
    refine Ol.gn (e2.trans c2) ?_
    refine Ol.gn (e2.trans c2) ?_
    refine Ol.p (pkTb (e2.trans c2)) ?_
    refine Ol.p mvb ?_
    refine Ol.gn rfl ?_
    refine Ol.gn rfl ?_
    refine Ol.gn rfl ?_
    refine Ol.p (pkTb rfl) ?_
    refine Ol.p asb ?_
    refine Ol.nil ?_
    exact Cd.ret ⟨.bool _, ret1 rfl rfl, [], .nil, by rw [e, c1, c2]; rfl, rfl⟩
  | false =>
  cases c3 : decide (8 < f.params.length) with
  | true =>
    refine Cd.region ?_
    refine Ol.p (fdl fd_api_Func_1) ?_
    refine Ol.p (ld one_L_api_Block (Rd.blk (i := 0) rfl rfl)) ?_
    refine Ol.p (lens sl_L_api_Block) ?_
    refine Ol.p eqi ?_
    refine Ol.p mvb ?_
    refine Ol.gp (e1.trans c1) (fdl fd_api_Func_1) ?_
    refine Ol.gp (e1.trans c1) (ld one_L_api_Block (Rd.blk (i := 0) rfl rfl)) ?_
    refine Ol.gp (e1.trans c1) (lens sl_L_api_Block) ?_
    refine Ol.gp (e1.trans c1) gti ?_
    refine Ol.p (pkFb (e1.trans c1)) ?_
    refine Ol.p mvb ?_
    refine Ol.gp (e2.trans c2) (fdl fd_api_Func_0) ?_
    refine Ol.gp (e2.trans c2) (ld one_L_int (Rd.blk (i := 0) rfl rfl)) ?_
    refine Ol.gp (e2.trans c2) (lens sl_L_int) ?_
    refine Ol.gp (e2.trans c2) gti ?_
    refine Ol.p (pkFb (e2.trans c2)) ?_
    refine Ol.p mvb ?_
    refine Ol.gn (e3.trans c3) ?_
    refine Ol.gn (e3.trans c3) ?_
    refine Ol.gn (e3.trans c3) ?_
    refine Ol.p (pkTb (e3.trans c3)) ?_
    refine Ol.p asb ?_
    refine Ol.nil ?_
    exact Cd.ret ⟨.bool _, ret1 rfl rfl, [], .nil, by rw [e, c1, c2, c3]; rfl, rfl⟩
  | false =>
    refine Cd.region ?_
    refine Ol.p (fdl fd_api_Func_1) ?_
    refine Ol.p (ld one_L_api_Block (Rd.blk (i := 0) rfl rfl)) ?_
    refine Ol.p (lens sl_L_api_Block) ?_
    refine Ol.p eqi ?_
    refine Ol.p mvb ?_
    refine Ol.gp (e1.trans c1) (fdl fd_api_Func_1) ?_
    refine Ol.gp (e1.trans c1) (ld one_L_api_Block (Rd.blk (i := 0) rfl rfl)) ?_
    refine Ol.gp (e1.trans c1) (lens sl_L_api_Block) ?_
    refine Ol.gp (e1.trans c1) gti ?_
    refine Ol.p (pkFb (e1.trans c1)) ?_
    refine Ol.p mvb ?_
    refine Ol.gp (e2.trans c2) (fdl fd_api_Func_0) ?_
    refine Ol.gp (e2.trans c2) (ld one_L_int (Rd.blk (i := 0) rfl rfl)) ?_
    refine Ol.gp (e2.trans c2) (lens sl_L_int) ?_
    refine Ol.gp (e2.trans c2) gti ?_
    refine Ol.p (pkFb (e2.trans c2)) ?_
    refine Ol.p mvb ?_
    refine Ol.gp (e3.trans c3) (fdl fd_api_Func_1) ?_
    refine Ol.gp (e3.trans c3) (ld one_L_api_Block (Rd.blk (i := 0) rfl rfl)) ?_
    refine Ol.gs (e3.trans c3) (cl en_slices_ContainsFunc_L_api_Block_api_Block (fun M w' hh => slices_ContainsFunc_Block_ct (g := 127) (fst := #[]) (cap := #[]) (p := fun b => decide (64 < b.ins.length)) ((hf.now hh).blocks) (by omega) ⟨en_ir_long_1, fun b hb w2 h2 => ir_long_1_ct⟩)) ?_
    refine Ol.p (pkFb (e3.trans c3)) ?_
    refine Ol.p asb ?_
    refine Ol.nil ?_
    exact Cd.ret ⟨.bool _, ret1 rfl rfl, [], .nil, by rw [e, c1, c2, c3]; rfl, rfl⟩
end
section
theorem ir_whole_1_ct {w : World} {i : RIns} (hi : InsAt w i) : Ct Tryz.prog 129 #[i.val] w (Is (.bool (!isIns i))) := by
  refine Ct.mk Tryz.func129 rfl rfl ?_
  refine Cd.seq ?_
  refine Cd.region ?_
  refine Ol.x bxg ?_
  rintro _ _ ⟨g1, rfl, rfl⟩
  refine Ol.p asb ?_
  refine Ol.nil ?_
  refine Cd.seq ?_
  refine Cd.region ?_
  refine Ol.p (ldw ag_api_Ins (i := 0) rfl rfl) ?_
  refine Ol.s (cl en_ir_IsIns (fun M w' hh => ir_IsIns_ct (hi.now hh))) ?_
  refine Ol.p noti ?_
  refine Ol.p asb ?_
  refine Ol.nil ?_
  exact Cd.ret ⟨.bool _, ret1 rfl rfl, [], .nil, rfl, rfl⟩
theorem InsAt.below {w w' : World} {i : RIns} (h : InsAt w i) (hb : Below w.heap.size w w') : InsAt w' i := ⟨(h.args.below hb).more hb.size, h.len, h.callee⟩
end
end Go.Proofs.YtjenaenakopicaaGreat

/- The package ir: whole functions, walked. -/
namespace Go.Proofs.YtjenaenakopicaaGreat
set_option linter.unusedVariables false
open Go Go.RowKit
set_option maxRecDepth 100000

theorem ints_at {l : List Int} {k : Nat} {n : Int} (h : l[k]? = some n) : (ints l)[k]? = some (.int .i64 n) := by simp [ints, h]
def seenV (l : List Int) : VS := fun j => decide ((j : Int) ∈ l)
theorem whole_split (f : RFun) : wholeF f = (f.params.all varB && decide f.params.Nodup && f.blocks.all wholeB) := rfl
theorem nodup_snoc {l : List Int} {n : Int} (h : l.Nodup) (hn : n ∉ l) : (l ++ [n]).Nodup := by
  rw [List.nodup_append]
  refine ⟨h, by simp, fun a ha b hb => ?_⟩
  have : b = n := by simpa using hb
  subst this
  exact fun e => hn (e ▸ ha)
section
set_option maxHeartbeats 2000000 in
theorem ir_whole_ct {w : World} {f : RFun} (hf : FunAt w w.heap.size f) (hfit : Fit f) : Ct Tryz.prog 83 #[f.val] w (Is (.bool (wholeF f))) := by
  have hbl := hfit.blen
  have hpl := hfit.plen
  refine Ct.mk Tryz.func83 rfl rfl ?_
  refine Cd.seq ?_
  refine Cd.region ?_
  refine Ol.x bxg ?_
  rintro _ _ ⟨g1, rfl, rfl⟩
  refine Ol.p asb ?_
  refine Ol.nil ?_
  refine Cd.seq ?_
  refine Cd.region ?_
  refine Ol.x (alc zr_ir_set) ?_
  rintro _ _ ⟨g3, rfl, rfl⟩
  refine Ol.nil ?_
  refine Cd.mid (fun σ' L' => ∃ Z, (f.params.all varB = true ∧ f.params.Nodup) ∧ Has σ' [(1, .pointer (some ⟨g1, 0, none⟩))] ∧ [blk g3 (.cells Z 145), blk g1 (.cells f.cells.toArray 37)] = L') ?_ ?_
  · refine Cd.seq ?_
    refine Cd.region ?_
    refine Ol.p (fdl fd_api_Func_0) ?_
    refine Ol.p (ld one_L_int (Rd.blk (i := 1) rfl rfl)) ?_
    refine Ol.p (lens sl_L_int) ?_
    refine Ol.p mvi ?_
    refine Ol.nil ?_
    refine Cd.block ?_   -- 0
    refine Cd.loop (fun m σ L => ∃ k, m = f.params.length - k ∧ k ≤ f.params.length ∧ Has σ [(1, .pointer (some ⟨g1, 0, none⟩)), (3, .pointer (some ⟨g3, 0, none⟩)), (9, .slice f.pA f.params.length f.pC), (10, .int .i64 f.params.length), (11, .int .i64 k)] ∧ [blk g3 (.cells (encV (seenV (f.params.take k))) 145), blk g1 (.cells f.cells.toArray 37)] = L ∧ (∀ n ∈ f.params.take k, varB n = true) ∧ (f.params.take k).Nodup) (n := f.params.length) ⟨0, rfl, Nat.zero_le _, ⟨rfl, rfl, rfl, rfl, rfl, trivial⟩, by rw [show encV (seenV (f.params.take 0)) = encV fun _ => false from encV_congr fun i _ => by simp [seenV], ← zeroV]; rfl, by simp, by simp⟩ ?_
    rintro _ σ L ⟨k, rfl, hk, hs, rfl, hv, hnd⟩
    refine Cd.has hs ?_
    refine Cd.seq ?_
    refine Cd.region ?_
    refine Ol.p lsi ?_
    refine Ol.nil ?_
    refine Cd.seq ?_
    refine Cd.cond rfl (fun h => ?_) (fun h => ?_)   -- $12
    · have hlt : k < f.params.length := by
        simp only [decide_eq_true_eq] at h; omega
      obtain ⟨p, hp⟩ : ∃ p, f.params[k]? = some p := ⟨_, List.getElem?_eq_getElem hlt⟩
      have hpm := List.mem_of_getElem? hp
      refine Cd.skip ?_
      refine Cd.seq ?_
      refine Cd.block ?_   -- 1
      refine Cd.seq ?_
      refine Cd.region ?_
      refine Ol.p (ixn1 (ix := k) sl_L_int (Som.slc hf.params (by omega))) ?_
      refine Ol.p (ld one_int (Rd.slc hf.params (ints_at hp))) ?_
      refine Ol.p asi ?_
      refine Ol.nil ?_
      cases hvp : varB p with
      | false =>
        have hg : (!varB p) = true := by rw [hvp]; rfl
        refine Cd.seq ?_
        refine Cd.seq ?_
        refine Cd.region ?_
        refine Ol.p mvi ?_
        refine Ol.s (cl en_ir_variable (fun M w' hh => ir_variable_ct)) ?_
        refine Ol.p noti ?_
        refine Ol.p mvb ?_
        refine Ol.gn hg ?_
        refine Ol.gn hg ?_
        refine Ol.gn hg ?_
        refine Ol.p (pkTb hg) ?_
        refine Ol.nil ?_
        refine Cd.cond rfl (fun h => ?_) (fun h => by cases h)   -- $22
        refine Cd.seq ?_
        refine Cd.region ?_
        refine Ol.p asb ?_
        refine Ol.nil ?_
        refine Cd.ret ⟨.bool _, ret1 rfl rfl, [], .nil, ?_, rfl⟩
        have : f.params.all varB = false := by
          rw [List.all_eq_false]
          exact ⟨p, hpm, by rw [hvp]; simp⟩
        rw [whole_split, this]; rfl
      | true =>
        have hg : (!varB p) = false := by rw [hvp]; rfl
        have hpr := varB_iff.1 hvp
        obtain ⟨m, rfl⟩ : ∃ m : Nat, p = (m : Int) := ⟨p.toNat, by omega⟩
        have hm : m < 201 := by omega
        refine Cd.seq ?_
        refine Cd.seq ?_
        refine Cd.region ?_
        refine Ol.p mvi ?_
        refine Ol.s (cl en_ir_variable (fun M w' hh => ir_variable_ct)) ?_
        refine Ol.p noti ?_
        refine Ol.p mvb ?_
        refine Ol.gp hg mvi ?_
        refine Ol.gp hg (ixl1 (ix := m) ar_ir_set) ?_
        refine Ol.gp hg (ld one_bool (Rd.blk (i := 0) rfl (encV_get hm))) ?_
        refine Ol.p (pkFb hg) ?_
        refine Ol.nil ?_
        refine Cd.cond rfl (fun h => ?_) (fun h => ?_)   -- $22
        · refine Cd.seq ?_
          refine Cd.region ?_
          refine Ol.p asb ?_
          refine Ol.nil ?_
          refine Cd.ret ⟨.bool _, ret1 rfl rfl, [], .nil, ?_, rfl⟩
          have hmem : (m : Int) ∈ f.params.take k := by simpa [seenV] using h
          have : decide f.params.Nodup = false := by
            rw [decide_eq_false_iff_not]
            intro hN
            rw [← List.take_append_drop k f.params, List.nodup_append] at hN
            exact hN.2.2 _ hmem _ (List.mem_of_getElem? (i := 0) (by rw [List.getElem?_drop]; exact hp)) rfl
          rw [whole_split, this, Bool.and_false]; rfl
        have hmem : (m : Int) ∉ f.params.take k := by simpa [seenV] using h
        refine Cd.skip ?_
        refine Cd.region ?_
        refine Ol.p mvi ?_
        refine Ol.p (ixl1 (ix := m) ar_ir_set) ?_
        refine Ol.s (sto (k := m) (.inr sz_bool) rfl rfl (i := 0) rfl (by rw [encV_size]; exact hm) rfl) ?_
        refine Ol.nil ?_
        refine Cd.region ?_
        refine Ol.p addi ?_
        refine Ol.p mvi ?_
        refine Ol.nil ?_
        have e : (encV (seenV (f.params.take k))).setIfInBounds m (.bool true) = encV (seenV (f.params.take (k + 1))) := encV_put fun j hj => by
          unfold putV seenV
          rw [take_snoc_ hp]
          by_cases e : j = m
          · subst e; simp
          · have : ¬ (j : Int) = (m : Int) := by omega
            simp [e, this]
        refine ⟨f.params.length - (k + 1), by omega, k + 1, rfl, by omega, ⟨rfl, rfl, rfl, rfl, rfl, trivial⟩, congrArg (fun cs => [blk g3 (.cells cs 145), blk g1 (.cells f.cells.toArray 37)]) e.symm, ?_, ?_⟩
        · rw [take_snoc_ hp]
          intro n hn
          rcases List.mem_append.1 hn with h1 | h1
          · exact hv n h1
          · have : n = (m : Int) := by simpa using h1
            rw [this]; exact hvp
        · rw [take_snoc_ hp]
          exact nodup_snoc hnd hmem
    have hk2 : k = f.params.length := by
      simp only [decide_eq_false_iff_not] at h; omega
    subst hk2
    rw [List.take_length] at hv hnd
    refine Cd.exit (id := 0) ?_
    exact ⟨_, ⟨by rw [List.all_eq_true]; exact hv, hnd⟩, ⟨rfl, trivial⟩, rfl⟩
  rintro σ' _ ⟨Z, ⟨hv, hnd⟩, hs', rfl⟩
  refine Cd.has hs' ?_
  have hsplit : wholeF f = f.blocks.all wholeB := by
    rw [whole_split, hv, decide_eq_true hnd]; rfl
  refine Cd.seq ?_
  refine Cd.seq ?_
  refine Cd.region ?_
  refine Ol.p (fdl fd_api_Func_1) ?_
  refine Ol.p (ld one_L_api_Block (Rd.blk (i := 1) rfl rfl)) ?_
  refine Ol.p (lens sl_L_api_Block) ?_
  refine Ol.p mvi ?_
  refine Ol.nil ?_
  refine Cd.block ?_   -- 2
  refine Cd.loop (fun m σ L => ∃ k, m = f.blocks.length - k ∧ k ≤ f.blocks.length ∧ Has σ [(1, .pointer (some ⟨g1, 0, none⟩)), (27, .slice f.bA f.blocks.length f.bC), (28, .int .i64 f.blocks.length), (29, .int .i64 k)] ∧ [blk g3 (.cells Z 145), blk g1 (.cells f.cells.toArray 37)] = L ∧ ∀ b ∈ f.blocks.take k, wholeB b = true) (n := f.blocks.length) ⟨0, rfl, Nat.zero_le _, ⟨rfl, rfl, rfl, rfl, trivial⟩, rfl, by simp⟩ ?_
  rintro _ σ L ⟨k, rfl, hk, hs, rfl, hw⟩
  refine Cd.has hs ?_
  refine Cd.seq ?_
  refine Cd.region ?_
  refine Ol.p lsi ?_
  refine Ol.nil ?_
  refine Cd.seq ?_
  refine Cd.cond rfl (fun h => ?_) (fun h => ?_)   -- $30
  · have hlt : k < f.blocks.length := by
      simp only [decide_eq_true_eq] at h; omega
    obtain ⟨b, hb⟩ : ∃ b, f.blocks[k]? = some b := ⟨_, List.getElem?_eq_getElem hlt⟩
    have hbm := List.mem_of_getElem? hb
    have hba := hf.blk hfit hbm
    have hbl2 := hba.len
    have hno : wholeB b = false → wholeF f = false := fun h0 => by
      rw [hsplit, List.all_eq_false]
      exact ⟨b, hbm, by rw [h0]; simp⟩
    refine Cd.skip ?_
    refine Cd.seq ?_
    refine Cd.block ?_   -- 3
    refine Cd.seq ?_
    refine Cd.region ?_
    refine Ol.p (ixn sl_L_api_Block (Som.slc hf.blocks (by omega))) ?_
    refine Ol.p (lds (es := b.cells) ag_api_Block hf.blocks b.len (fun j u hu => blk_cell hb hu)) ?_
    refine Ol.x (alc zr_api_Block) ?_
    rintro _ _ ⟨g7, rfl, rfl⟩
    refine Ol.s (stw sz_api_Block rfl b.one (i := 0) rfl rfl) ?_
    refine Ol.nil ?_
    refine Cd.seq ?_
    cases ht : isTerm b.term with
    | false =>
      have hg : (!isTerm b.term) = true := by rw [ht]; rfl
      refine Cd.region ?_
      refine Ol.p (fdl fd_api_Block_1) ?_
      refine Ol.p (ldp (k := 0 + 1) (vs := b.term.cells.toArray) ag_api_Term (i := 0) rfl rfl (fun j u hu => by rw [Nat.zero_add, Nat.add_comm]; simpa [RBlk.cells] using hu)) ?_
      refine Ol.s (cl en_ir_IsTerm (fun M w' hh => ir_IsTerm_ct (t := b.term))) ?_
      refine Ol.p noti ?_
      refine Ol.p mvb ?_
      refine Ol.gn hg ?_
      refine Ol.gn hg ?_
      refine Ol.gn hg ?_
      refine Ol.p (pkTb hg) ?_
      refine Ol.nil ?_
      refine Cd.cond rfl (fun h => ?_) (fun h => by cases h)   -- $41
      refine Cd.seq ?_
      refine Cd.region ?_
      refine Ol.p asb ?_
      refine Ol.nil ?_
      refine Cd.ret ⟨.bool _, ret1 rfl rfl, [], .nil, ?_, rfl⟩
      rw [hno (by unfold wholeB; rw [ht]; rfl)]
    | true =>
      have hg : (!isTerm b.term) = false := by rw [ht]; rfl
      refine Cd.region ?_
      refine Ol.p (fdl fd_api_Block_1) ?_
      refine Ol.p (ldp (k := 0 + 1) (vs := b.term.cells.toArray) ag_api_Term (i := 0) rfl rfl (fun j u hu => by rw [Nat.zero_add, Nat.add_comm]; simpa [RBlk.cells] using hu)) ?_
      refine Ol.s (cl en_ir_IsTerm (fun M w' hh => ir_IsTerm_ct (t := b.term))) ?_
      refine Ol.p noti ?_
      refine Ol.p mvb ?_
      refine Ol.gp hg (fdl fd_api_Block_0) ?_
      refine Ol.gp hg (ld one_L_api_Ins (Rd.blk (i := 0) rfl rfl)) ?_
      refine Ol.gs hg (cl en_slices_ContainsFunc_L_api_Ins_api_Ins (fun M w' hh => slices_ContainsFunc_Ins_ct (g := 129) (fst := #[]) (cap := #[]) (p := fun i => !isIns i) ((hba.now hh).ins) (by omega) ⟨en_ir_whole_1, fun i hi w2 h2 => ir_whole_1_ct (((hba.now hh).all i hi).below h2)⟩)) ?_
      refine Ol.p (pkFb hg) ?_
      refine Ol.nil ?_
      refine Cd.cond rfl (fun h => ?_) (fun h => ?_)   -- $41
      · refine Cd.seq ?_
        refine Cd.region ?_
        refine Ol.p asb ?_
        refine Ol.nil ?_
        refine Cd.ret ⟨.bool _, ret1 rfl rfl, [], .nil, ?_, rfl⟩
        rw [hno ?_]
        unfold wholeB
        rw [ht, Bool.true_and, List.all_eq_false]
        rw [List.any_eq_true] at h
        obtain ⟨i, hi, h3⟩ := h
        exact ⟨i, hi, by simpa using h3⟩
      have hwb : wholeB b = true := by
        unfold wholeB
        rw [ht, Bool.true_and, List.all_eq_true]
        rw [List.any_eq_false] at h
        intro i hi
        have := h i hi
        simpa using this
      refine Cd.keep (.sub (.cons _ (List.Sublist.refl _))) ?_
      refine Cd.skip ?_
      refine Cd.region ?_
      refine Ol.p addi ?_
      refine Ol.p mvi ?_
      refine Ol.nil ?_
      refine ⟨f.blocks.length - (k + 1), by omega, k + 1, rfl, by omega, ⟨rfl, rfl, rfl, rfl, trivial⟩, rfl, ?_⟩
      rw [take_snoc_ hb]
      intro x hx
      rcases List.mem_append.1 hx with h1 | h1
      · exact hw x h1
      · have : x = b := by simpa using h1
        rw [this]; exact hwb
  have hk2 : k = f.blocks.length := by
    simp only [decide_eq_false_iff_not] at h; omega
  subst hk2
  rw [List.take_length] at hw
  refine Cd.exit (id := 2) ?_
  refine Cd.seq ?_
  refine Cd.region ?_
  refine Ol.p asb ?_
  refine Ol.nil ?_
  refine Cd.ret ⟨.bool _, ret1 rfl rfl, [], .nil, ?_, rfl⟩
  have : f.blocks.all wholeB = true := by rw [List.all_eq_true]; exact hw
  rw [hsplit, this]
end
end Go.Proofs.YtjenaenakopicaaGreat

/- A slice that starts somewhere in a block of one's own, and grows at its end: append. Over any program. -/
namespace Go.Proofs.YtjenaenakopicaaGreat
set_option linter.unusedVariables false
open Go Go.RowKit

def Queue (i e n : Nat) (xs : List Value) (L : List Res) : Value → List Res → Prop := fun v L' => ∃ g off c cs, v = .slice (some ⟨g, off, none⟩) n c ∧ L' = L.set i (blk g (.cells cs e)) ∧ off + c ≤ cs.size ∧ n ≤ c ∧ ∀ j u, xs[j]? = some u → cs[off + j]? = some u
section
variable {P : Program} {w0 : World} {B : Nat} {σ : Env} {L : List Res} {d : Option Nat} {ty T : TypeId} {pos : String} {af : Array Edge} {gd : Option (Nat × Bool)} {x y : Operand}
theorem apq {i g off n c b m c2 e : Nat} {A2 : Option Addr} {cs : Array Value} {xs ys : List Value} {zv : Value} (hT : SlT P T e 1 b) (hz : ZrT P e zv) (hzs : zv.cells.size = 1) (hi : L[i]? = some (blk g (.cells cs e))) (hsz : off + c ≤ cs.size) (hnc : n ≤ c) (hxl : xs.length = n)
    (hold : ∀ j u, xs[j]? = some u → cs[off + j]? = some u) (hsrc : Src w0 B L A2 m 1 ys) (h1 : ∀ u ∈ ys, u.oneCell' = true) (hml : n + m ≤ maxLen) (hby : (n + m) * b ≤ 140737488355328) (hx : ev σ x = .slice (some ⟨g, off, none⟩) n c := by exact rfl) (hy : ev σ y = .slice A2 m c2 := by exact rfl) :
    Sp P w0 B ⟨d, .call { callee := .builtin .append, args := #[x, y], argTypes := #[T, T] }, ty, pos, af, gd⟩ σ L (Queue i e (n + m) (xs ++ ys) L) := fun M w hh => by
  obtain ⟨inf, hi1, he⟩ := info_of hT.2
  simp only [Prod.mk.injEq] at he
  obtain ⟨i2, hi2, hz2⟩ := info_of hz
  rw [hi1] at hi2
  cases hi2
  have hg : w.heap[g]? = some (.cells cs e (0, 0)) := hh.at_ hi
  have hyl : ys.length = m := by have := hsrc.1; omega
  have key : ∃ v' w', (Builtin.append_ #[T, T] ty #[.slice (some ⟨g, off, none⟩) n c, .slice A2 m c2]).run P w = .ok v' w' ∧ Stp (fun k => k = g) w w' ∧ ∃ g' off' c' cs', v' = .slice (some ⟨g', off', none⟩) (n + m) c' ∧ w'.heap[g']? = some (.cells cs' e (0, 0)) ∧ (g' = g ∨ (w.heap.size ≤ g' ∧ g' < w'.heap.size)) ∧ off' + c' ≤ cs'.size ∧ n + m ≤ c' ∧ ∀ j u, (xs ++ ys)[j]? = some u → cs'[off' + j]? = some u := by
    rcases hsrc.2 M w hh with ⟨rfl, rfl⟩ | ⟨a, rfl, hc⟩
    · have hy0 : ys = [] := List.eq_nil_of_length_eq_zero hyl
      subst hy0
      refine ⟨.slice (some ⟨g, off, none⟩) n c, w, ?_, Stp.refl _ _, g, off, c, cs, rfl, hg, .inl rfl, hsz, hnc, by simpa using hold⟩
      simp [Builtin.append_, run_underlying hT.1, sizeOf, typeInfo, hi1, Builtin.lenOf, Builtin.firstCells, hnc, storeCells]
    · by_cases hroom : n + m ≤ c
      · have hfc := run_firstCells_some (P := P) w inf.size m a m c2 ys (by rw [he.1]; exact hsrc.1) hc
        obtain ⟨w', hst, hstp, hg'⟩ := run_storeCells_all (P := P) (g := g) (e := e) ys (off + n * inf.size) 0 cs w hg (by rw [he.1]; omega) h1
        simp only [Nat.add_zero] at hst hg'
        refine ⟨.slice (some ⟨g, off, none⟩) (n + m) c, w', ?_, hstp, g, off, c, _, rfl, hg', .inl rfl, ?_, hroom, ?_⟩
        · simp [Builtin.append_, run_underlying hT.1, sizeOf, typeInfo, hi1, Builtin.lenOf, hroom, hfc, Addr.add_lit, hst]
        · simp only [List.size_toArray, List.length_append, List.length_take, List.length_drop, Array.length_toList, he.1]
          omega
        · intro j u hu
          simp only [he.1, Nat.mul_one, List.getElem?_toArray]
          have htl : (cs.toList.take (off + n)).length = off + n := by simp; omega
          rcases Nat.lt_or_ge j n with hj | hj
          · rw [List.getElem?_append_left (by omega)] at hu
            rw [List.append_assoc, List.getElem?_append_left (by omega), List.getElem?_take, if_pos (by omega), Array.getElem?_toList]
            exact hold j u hu
          · rw [List.getElem?_append_right (by omega)] at hu
            have hjl := (List.getElem?_eq_some_iff.1 hu).1
            rw [List.append_assoc, List.getElem?_append_right (by omega), htl, List.getElem?_append_left (by omega)]
            rw [show off + j - (off + n) = j - xs.length by omega]
            exact hu
      · have holds : ∀ j u, xs[j]? = some u → w.cell? ((⟨g, off, none⟩ : Addr).add j) = some u := fun j u hu => by
          rw [Addr.add_lit, cell_of_row w g (off + j) cs e (0, 0) hg]
          exact hold j u hu
        obtain ⟨v', w', hr, hown, hgr⟩ := run_append_arg_grows (P := P) w T ty e inf zv 1 b hT.1 hi1 hz2 he.1 he.2 hzs (by decide) ⟨g, off, none⟩ n c xs (by omega) holds a m c2 ys hsrc.1 hc (by omega) hml hby
        rcases hown.2 with ⟨rfl, h0⟩ | ⟨g', cap, cur, rfl, hb', hg', hnc', _, hcs, htake⟩
        · omega
        · refine ⟨_, w', hr, (Stp.of_grown hgr).mono (fun k _ hk => by cases hk), g', 0, cap, cur, rfl, hg', .inr ⟨hb', ?_⟩, by omega, hnc', ?_⟩
          · exact (Array.getElem?_eq_some_iff.1 hg').1
          · intro j u hu
            have hj := (List.getElem?_eq_some_iff.1 hu).1
            have : (cur.toList.take ((n + m) * 1))[j]? = some u := by rw [htake]; exact hu
            rw [List.getElem?_take] at this
            split at this
            · rw [Nat.zero_add]; simpa using this
            · cases this
  obtain ⟨v', w', hr, hstp, g', off', c', cs', rfl, hg', hgg, h2, h3, h4⟩ := key
  refine .inl ⟨_, w', ?_, _, hh.set (r' := blk g' (.cells cs' e)) hi hstp hg' (fun k hk => ?_), g', off', c', cs', rfl, rfl, h2, h3, h4⟩
  · simp [execOp, hx, hy, resolve, invoke, builtin, hr]
  · rcases hgg with e1 | e1
    · left
      have : k = g' := hk
      show k = g
      omega
    · right
      have : k = g' := hk
      omega
end
end Go.Proofs.YtjenaenakopicaaGreat

/- The package ir: which blocks are reached, walked. -/
namespace Go.Proofs.YtjenaenakopicaaGreat
set_option linter.unusedVariables false
open Go Go.RowKit
set_option maxRecDepth 100000

theorem slq {P : Program} {w0 : World} {B : Nat} {σ : Env} {L : List Res} {d : Option Nat} {ty T : TypeId} {pos : String} {af : Array Edge} {gd : Option (Nat × Bool)} {x y : Operand} {g off off' n c e b : Nat} {k : IntKind} (hT : SlT P T e 1 b) (hl : 1 ≤ n) (ho : off' = if c = 1 then off else off + 1) (hx : ev σ x = .slice (some ⟨g, off, none⟩) n c := by exact rfl) (hy : ev σ y = .int k ((1 : Nat) : Int) := by exact rfl) :
    Sd P w0 B ⟨d, .slice T x (some y) none none, ty, pos, af, gd⟩ σ L (.slice (some ⟨g, off', none⟩) (n - 1) (c - 1)) := by
  have := sll (d := d) (ty := ty) (pos := pos) (af := af) (gd := gd) (P := P) (w0 := w0) (B := B) (L := L) (l := 1) hT hl hx hy
  have e : (if c = 1 then (some ⟨g, off, none⟩ : Option Addr) else (some ⟨g, off, none⟩ : Option Addr).map (·.add (1 * 1))) = some ⟨g, off', none⟩ := by
    rw [ho]
    by_cases e : c = 1 <;> simp [e, add_lit_]
  rwa [e] at this
section
set_option maxHeartbeats 4000000 in
theorem ir_reach_ct {w : World} {f : RFun} (hf : FunAt w w.heap.size f) (hfit : Fit f) (h0 : 0 < f.blocks.length) (h200 : f.blocks.length ≤ 200) :
    Ct Tryz.prog 86 #[f.val] w (Is (.tuple (bif okEs f.terms then #[.int .i64 ((orderF f.terms).length : Nat), .bool true] else #[.int .i64 0, .bool false]))) := by
  have htl : f.terms.length = f.blocks.length := by simp [RFun.terms]
  refine Ct.mk Tryz.func86 rfl rfl ?_
  refine Cd.seq ?_
  refine Cd.region ?_
  refine Ol.x bxg ?_
  rintro _ _ ⟨g1, rfl, rfl⟩
  refine Ol.p asi ?_
  refine Ol.p asb ?_
  refine Ol.nil ?_
  refine Cd.seq ?_
  refine Cd.region ?_
  refine Ol.p (fdl fd_api_Func_1) ?_
  refine Ol.p (ld one_L_api_Block (Rd.blk (i := 0) rfl rfl)) ?_
  refine Ol.p (lens sl_L_api_Block) ?_
  refine Ol.x (mks (n := f.blocks.length) (c := f.blocks.length) sl_L_bool zr_bool) ?_
  rintro _ _ ⟨gs, rfl, rfl⟩
  refine Ol.p ass ?_
  refine Ol.nil ?_
  rw [show (madeCells (Value.bool false).cells (f.blocks.length * 1)).toList.take (f.blocks.length * 1) = boolsL f.blocks.length fun _ => false from made_bools _]
  obtain ⟨L0, hL0⟩ : ∃ L0, L0 = [row (.slice (some ⟨gs, 0, none⟩) f.blocks.length f.blocks.length) 4 1 f.blocks.length (boolsL f.blocks.length fun _ => false), blk g1 (.cells f.cells.toArray 37)] := ⟨_, rfl⟩
  refine Cd.mid (fun σ' L' => okEs f.terms = true ∧ Has σ' [(1, .pointer (some ⟨g1, 0, none⟩)), (2, .int .i64 0), (4, .slice (some ⟨gs, 0, none⟩) f.blocks.length f.blocks.length)] ∧ L0 = L') ?_ ?_
  · refine Cd.seq ?_
    refine Cd.region ?_
    refine Ol.p (fdl fd_api_Func_1) ?_
    refine Ol.p (ld one_L_api_Block (Rd.blk (i := 1) rfl rfl)) ?_
    refine Ol.p (lens sl_L_api_Block) ?_
    refine Ol.p mvi ?_
    refine Ol.nil ?_
    refine Cd.block ?_   -- 0
    refine Cd.loop (fun m σ L => ∃ k, m = f.blocks.length - k ∧ k ≤ f.blocks.length ∧ Has σ [(1, .pointer (some ⟨g1, 0, none⟩)), (2, .int .i64 0), (4, .slice (some ⟨gs, 0, none⟩) f.blocks.length f.blocks.length), (16, .slice f.bA f.blocks.length f.bC), (17, .int .i64 f.blocks.length), (18, .int .i64 k)] ∧ L0 = L ∧ ∀ t ∈ f.terms.take k, (toL t).all (fun n => decide (1 ≤ n) && decide (n < (f.terms.length : Int))) = true) (n := f.blocks.length) ⟨0, rfl, Nat.zero_le _, ⟨rfl, rfl, rfl, rfl, rfl, rfl, trivial⟩, hL0, by simp⟩ ?_
    rintro _ σ L ⟨k, rfl, hk, hs, rfl, hall⟩
    refine Cd.has hs ?_
    refine Cd.seq ?_
    rw [hL0]
    refine Cd.region ?_
    refine Ol.p lsi ?_
    refine Ol.nil ?_
    refine Cd.seq ?_
    refine Cd.cond rfl (fun h => ?_) (fun h => ?_)   -- $19
    · have hlt : k < f.blocks.length := by
        simp only [decide_eq_true_eq] at h; omega
      obtain ⟨b, hb⟩ : ∃ b, f.blocks[k]? = some b := ⟨_, List.getElem?_eq_getElem hlt⟩
      have ht : f.terms[k]? = some b.term := by simp [RFun.terms, hb]
      have hbm := List.mem_of_getElem? hb
      refine Cd.skip ?_
      refine Cd.seq ?_
      refine Cd.block ?_   -- 1
      refine Cd.seq ?_
      refine Cd.region ?_
      refine Ol.p (ixn sl_L_api_Block (Som.slc hf.blocks (by omega))) ?_
      refine Ol.p (lds (es := b.cells) ag_api_Block hf.blocks b.len (fun j u hu => blk_cell hb hu)) ?_
      refine Ol.x (alc zr_api_Block) ?_
      rintro _ _ ⟨g6, rfl, rfl⟩
      refine Ol.s (stw sz_api_Block rfl b.one (i := 0) rfl rfl) ?_
      refine Ol.nil ?_
      refine Cd.seq ?_
      refine Cd.region ?_
      refine Ol.p (fdl fd_api_Block_1) ?_
      refine Ol.p (ldp (k := 0 + 1) (vs := b.term.cells.toArray) ag_api_Term (i := 0) rfl rfl (fun j u hu => by rw [Nat.zero_add, Nat.add_comm]; simpa [RBlk.cells] using hu)) ?_
      refine Ol.x (sp_call en_ir_To (fun M w' hh => ir_To_ct (t := b.term))) ?_
      rintro _ _ ⟨_, rfl, A24, c24, rfl, rfl⟩
      refine Ol.p (lens sl_L_int) ?_
      refine Ol.p mvi ?_
      refine Ol.nil ?_
      obtain ⟨to, hto⟩ : ∃ to, to = toL b.term := ⟨_, rfl⟩
      have htoL := toL_len b.term
      rw [← hto] at htoL ⊢
      refine Cd.block ?_   -- 2
      obtain ⟨L1, hL1⟩ : ∃ L1, L1 = row (.slice A24 to.length c24) 3 1 to.length (ints to) :: blk g6 (.cells b.cells.toArray 34) :: L0 := ⟨_, rfl⟩
      refine Cd.loop (fun m σ L => ∃ j, m = to.length - j ∧ j ≤ to.length ∧ Has σ [(1, .pointer (some ⟨g1, 0, none⟩)), (2, .int .i64 0), (4, .slice (some ⟨gs, 0, none⟩) f.blocks.length f.blocks.length), (16, .slice f.bA f.blocks.length f.bC), (17, .int .i64 f.blocks.length), (18, .int .i64 k), (24, .slice A24 to.length c24), (25, .int .i64 to.length), (26, .int .i64 j)] ∧ L1 = L ∧ ∀ n ∈ to.take j, 1 ≤ n ∧ n < (f.blocks.length : Int)) (n := to.length) ⟨0, rfl, Nat.zero_le _, ⟨rfl, rfl, rfl, rfl, rfl, rfl, rfl, rfl, rfl, trivial⟩, by rw [hL1, hL0]; rfl, by simp⟩ ?_
      clear hs
      rintro _ σ L ⟨j, rfl, hj, hs, rfl, hto2⟩
      refine Cd.has hs ?_
      refine Cd.seq ?_
      rw [hL1, hL0]
      refine Cd.region ?_
      refine Ol.p lsi ?_
      refine Ol.nil ?_
      refine Cd.seq ?_
      refine Cd.cond rfl (fun h2 => ?_) (fun h2 => ?_)   -- $27
      · have hjl : j < to.length := by
          simp only [decide_eq_true_eq] at h2; omega
        obtain ⟨n, hn⟩ : ∃ n, to[j]? = some n := ⟨_, List.getElem?_eq_getElem hjl⟩
        have hnm := List.mem_of_getElem? hn
        have hbad : ¬ (1 ≤ n ∧ n < (f.blocks.length : Int)) → okEs f.terms = false := fun hno => by
          unfold okEs
          rw [List.all_eq_false]
          refine ⟨b.term, List.mem_of_getElem? ht, ?_⟩
          rw [← hto]
          intro h3
          rw [List.all_eq_true] at h3
          have := h3 n hnm
          rw [htl] at this
          exact hno (by simpa using this)
        refine Cd.skip ?_
        refine Cd.seq ?_
        refine Cd.block ?_   -- 3
        refine Cd.seq ?_
        refine Cd.region ?_
        refine Ol.p (ixn1 (ix := j) sl_L_int (Som.row (i := 0) rfl (by omega))) ?_
        refine Ol.p (ld one_int (Rd.row (i := 0) rfl (ints_at hn))) ?_
        refine Ol.p asi ?_
        refine Ol.nil ?_
        refine Cd.seq ?_
        cases hlow : decide (n < 1) with
        | true =>
          refine Cd.region ?_
          refine Ol.p mvi ?_
          refine Ol.p lsi ?_
          refine Ol.p mvb ?_
          refine Ol.gn hlow ?_
          refine Ol.gn hlow ?_
          refine Ol.gn hlow ?_
          refine Ol.gn hlow ?_
          refine Ol.gn hlow ?_
          refine Ol.p (pkTb hlow) ?_
          refine Ol.nil ?_
          refine Cd.cond rfl (fun h => ?_) (fun h => by cases h)   -- $38
          refine Cd.seq ?_
          refine Cd.region ?_
          refine Ol.p asi ?_
          refine Ol.p asb ?_
          refine Ol.nil ?_
          refine Cd.ret ⟨.tuple _, ret2 rfl rfl rfl, [], .nil, ?_, rfl⟩
          rw [hbad (by simp only [decide_eq_true_eq] at hlow; omega)]; rfl
        | false =>
          refine Cd.region ?_
          refine Ol.p mvi ?_
          refine Ol.p lsi ?_
          refine Ol.p mvb ?_
          refine Ol.gp hlow mvi ?_
          refine Ol.gp hlow (fdl fd_api_Func_1) ?_
          refine Ol.gp hlow (ld one_L_api_Block (Rd.blk (i := 3) rfl rfl)) ?_
          refine Ol.gp hlow (lens sl_L_api_Block) ?_
          refine Ol.gp hlow gei ?_
          refine Ol.p (pkFb hlow) ?_
          refine Ol.nil ?_
          refine Cd.cond rfl (fun h => ?_) (fun h => ?_)   -- $38
          · refine Cd.seq ?_
            refine Cd.region ?_
            refine Ol.p asi ?_
            refine Ol.p asb ?_
            refine Ol.nil ?_
            refine Cd.ret ⟨.tuple _, ret2 rfl rfl rfl, [], .nil, ?_, rfl⟩
            rw [hbad (by simp only [decide_eq_true_eq] at h; omega)]; rfl
          refine Cd.skip ?_
          refine Cd.region ?_
          refine Ol.p addi ?_
          refine Ol.p mvi ?_
          refine Ol.nil ?_
          refine ⟨to.length - (j + 1), by omega, j + 1, rfl, by omega, ⟨rfl, rfl, rfl, rfl, rfl, rfl, rfl, rfl, rfl, trivial⟩, rfl, ?_⟩
          intro x hx
          rw [take_snoc_ hn] at hx
          rcases List.mem_append.1 hx with h3 | h3
          · exact hto2 x h3
          · have : x = n := by simpa using h3
            subst this
            simp only [decide_eq_false_iff_not] at h hlow
            omega
      have hj2 : j = to.length := by
        simp only [decide_eq_false_iff_not] at h2; omega
      subst hj2
      rw [List.take_length] at hto2
      refine Cd.exit (id := 2) ?_
      refine Cd.keep (.sub (.cons _ (.cons _ (List.Sublist.refl _)))) ?_
      refine Cd.region ?_
      refine Ol.p addi ?_
      refine Ol.p mvi ?_
      refine Ol.nil ?_
      refine ⟨f.blocks.length - (k + 1), by omega, k + 1, rfl, by omega, ⟨rfl, rfl, rfl, rfl, rfl, rfl, trivial⟩, rfl, ?_⟩
      intro x hx
      rw [take_snoc_ ht] at hx
      rcases List.mem_append.1 hx with h3 | h3
      · exact hall x h3
      · have : x = b.term := by simpa using h3
        subst this
        rw [← hto, List.all_eq_true]
        intro n hn
        have := hto2 n hn
        rw [htl]
        simpa using this
    have hk2 : k = f.blocks.length := by
      simp only [decide_eq_false_iff_not] at h; omega
    subst hk2
    rw [← htl, List.take_length] at hall
    refine Cd.exit (id := 0) ?_
    refine ⟨?_, ⟨rfl, rfl, rfl, trivial⟩, rfl⟩
    unfold okEs
    rw [List.all_eq_true]
    exact hall
  rintro σ' _ ⟨hok, hs', rfl⟩
  refine Cd.has hs' ?_
  have hcl := okEs_closed hok (by omega) (by omega)
  rw [hok, cond_true]
  refine Cd.seq ?_
  refine Cd.seq ?_
  rw [hL0]
  refine Cd.region ?_
  refine Ol.x (bsv [.int .i64 0] sl_L_int zr_int (by simp [Value.cells])) ?_
  rintro _ _ ⟨gq, rfl, rfl⟩
  refine Ol.p ass ?_
  refine Ol.nil ?_
  refine Cd.unrow (fun cs0 hcs1 hcs2 => ?_)
  refine Cd.block ?_   -- 4
  refine Cd.loop (fun m σ L => ∃ (S : Nat → Bool) (todo : List Nat) (g off c : Nat) (cs : Array Value), m = 3 * (f.blocks.length - cntB f.blocks.length S) + todo.length ∧ Bfs f.terms S todo ∧ todo.length ≤ 1 + 2 * cntB f.blocks.length S ∧ (off + c ≤ cs.size ∧ todo.length ≤ c ∧ ∀ j u, (intsN todo)[j]? = some u → cs[off + j]? = some u) ∧ Has σ [(1, .pointer (some ⟨g1, 0, none⟩)), (2, .int .i64 (cntB f.blocks.length S : Nat)), (4, .slice (some ⟨gs, 0, none⟩) f.blocks.length f.blocks.length), (9, .slice (some ⟨g, off, none⟩) todo.length c)] ∧
      [blk g (.cells cs 3), row (.slice (some ⟨gs, 0, none⟩) f.blocks.length f.blocks.length) 4 1 f.blocks.length (boolsL f.blocks.length S), blk g1 (.cells f.cells.toArray 37)] = L) (n := 3 * (f.blocks.length - cntB f.blocks.length fun _ => false) + 1)
    ⟨fun _ => false, [0], gq, 0, 1, cs0, rfl, Bfs.start (by omega), by simp, ⟨by omega, Nat.le_refl _, fun j u hu => ?_⟩, ⟨rfl, by rw [show cntB f.blocks.length (fun _ => false) = 0 by simp [cntB]]; rfl, rfl, rfl, trivial⟩, rfl⟩ ?_
  · have h3 : (cs0.toList.take (1 * 1))[j]? = some u := by rw [hcs2]; exact hu
    rw [List.getElem?_take] at h3
    split at h3
    · rw [Nat.zero_add]; simpa using h3
    · cases h3
  rintro _ σ L ⟨S, todo, g, off, c, cs, rfl, hB, hlen, ⟨hsz, hnc, hcell⟩, hs, rfl⟩
  refine Cd.has hs ?_
  have hcnt := cntB_le f.blocks.length S
  refine Cd.seq ?_
  refine Cd.seq ?_
  refine Cd.region ?_
  refine Ol.p mvs ?_
  refine Ol.p (lens sl_L_int) ?_
  refine Ol.p gti ?_
  refine Ol.nil ?_
  refine Cd.cond rfl (fun h => ?_) (fun h => ?_)   -- $44
  · obtain ⟨x, rest, rfl⟩ : ∃ x rest, todo = x :: rest := by
      cases todo with
      | nil => simp at h
      | cons x rest => exact ⟨x, rest, rfl⟩
    obtain ⟨hxl, hxr⟩ := hB.t x (by simp)
    rw [htl] at hxl
    obtain ⟨b, hb⟩ : ∃ b, f.blocks[x]? = some b := ⟨_, List.getElem?_eq_getElem hxl⟩
    have ht : f.terms[x]? = some b.term := by simp [RFun.terms, hb]
    have h00 : cs[off + 0]? = some (.int .i64 (x : Int)) := hcell 0 _ rfl
    have hrest : ∀ j u, (intsN rest)[j]? = some u → cs[(if c = 1 then off else off + 1) + j]? = some u := fun j u hu => by
      by_cases e : c = 1
      · have : rest.length = 0 := by simp only [List.length_cons] at hnc; omega
        have : rest = [] := List.eq_nil_of_length_eq_zero this
        subst this; simp [intsN] at hu
      · rw [if_neg e, show off + 1 + j = off + (j + 1) by omega]
        exact hcell (j + 1) u hu
    simp only [List.length_cons] at hnc hlen
    obtain ⟨off', hoff⟩ : ∃ off', off' = if c = 1 then off else off + 1 := ⟨_, rfl⟩
    have hsz' : off' + (c - 1) ≤ cs.size := by rw [hoff]; split <;> omega
    rw [← hoff] at hrest
    refine Cd.skip ?_
    refine Cd.block ?_   -- 5
    refine Cd.seq ?_
    refine Cd.region ?_
    refine Ol.p mvs ?_
    refine Ol.p (ixo (ix := 0) (n := rest.length + 1) sl_L_int) ?_
    refine Ol.p (ld one_int (Rd.blk (i := 0) rfl h00)) ?_
    refine Ol.p asi ?_
    refine Ol.nil ?_
    refine Cd.seq ?_
    refine Cd.region ?_
    refine Ol.p mvs ?_
    refine Ol.p (slq (n := rest.length + 1) (c := c) (off' := off') sl_L_int (by omega) hoff) ?_
    refine Ol.p ass ?_
    refine Ol.nil ?_
    refine Cd.seq ?_
    refine Cd.region ?_
    refine Ol.p mvs ?_
    refine Ol.p mvi ?_
    refine Ol.p (ixn1 (ix := x) sl_L_bool (Som.row (i := 1) rfl (by omega))) ?_
    refine Ol.p (ld one_bool (Rd.row (i := 1) rfl (boolsL_get hxl))) ?_
    refine Ol.p noti ?_
    refine Ol.nil ?_
    refine Cd.cond rfl (fun h2 => ?_) (fun h2 => ?_)   -- $54
    · have hSx : S x = false := by simpa using h2
      have hcs := cntB_set hxl hSx
      have hcl2 := cntB_le f.blocks.length (setB S x)
      have hat : ∀ n ∈ toL b.term, 0 ≤ n := fun n hn => by have := okEs_at hok (a := x) (by rw [toAt_some ht]; exact hn); omega
      have htoN : (toN b.term).length ≤ 2 := by have := toL_len b.term; unfold toN; rw [List.length_map]; exact this
      have htoN2 : (toL b.term).length = (toN b.term).length := by unfold toN; rw [List.length_map]
      have hB2 : Bfs f.terms (setB S x) (rest ++ toN b.term) := hB.see (fun q => by rw [mem_toN hat, toAt_some ht]) (fun q hq => by
        have := okEs_at hok (a := x) (n := (q : Int)) (by rw [toAt_some ht]; exact (mem_toN hat q).1 hq); omega)
      refine Cd.seq ?_
      refine Cd.region ?_
      refine Ol.p mvs ?_
      refine Ol.p mvi ?_
      refine Ol.p (ixn1 (ix := x) sl_L_bool (Som.row (i := 1) rfl (by omega))) ?_
      refine Ol.s (str (i := 1) (k := x) sz_bool rfl rfl rfl (by rw [boolsL_len]; exact hxl) rfl) ?_
      refine Ol.nil ?_
      refine Cd.seq ?_
      refine Cd.region ?_
      refine Ol.p mvi ?_
      refine Ol.p addi ?_
      refine Ol.p asi ?_
      refine Ol.nil ?_
      refine Cd.region ?_
      refine Ol.p mvs ?_
      refine Ol.p (fdl fd_api_Func_1) ?_
      refine Ol.p (ld one_L_api_Block (Rd.blk (i := 2) rfl rfl)) ?_
      refine Ol.p mvi ?_
      refine Ol.p (ixn (ix := x) sl_L_api_Block (Som.slc hf.blocks (by omega))) ?_
      refine Ol.p (fdp fd_api_Block_1) ?_
      refine Ol.p (lds (es := b.term.cells) ag_api_Term hf.blocks rfl (fun q u hu => by rw [Nat.add_assoc, hf.cell hb (j := 1 + q) (by have := (List.getElem?_eq_some_iff.1 hu).1; simp [Tm.cells] at this; omega), Nat.add_comm]; simpa [RBlk.cells] using hu)) ?_
      refine Ol.x (sp_call en_ir_To (fun M w' hh => ir_To_ct (t := b.term))) ?_
      rintro _ _ ⟨_, rfl, A67, c67, rfl, rfl⟩
      refine Ol.x (apq (i := 1) (n := rest.length) (c := c - 1) (m := (toL b.term).length) (xs := intsN rest) (ys := ints (toL b.term)) sl_L_int zr_int rfl rfl hsz' (by omega) (by simp [intsN]) hrest (Src.row (i := 0) rfl (by simp [ints])) (ints_one _) (by unfold maxLen; omega) (by omega)) ?_
      rintro _ _ ⟨g', off2, c', cs', rfl, rfl, hq1, hq2, hq3⟩
      refine Ol.p ass ?_
      refine Ol.keep (.sub (.cons _ (List.Sublist.refl _))) ?_
      refine Ol.nil ?_
      have e1 : rest.length + (toL b.term).length = (rest ++ toN b.term).length := by rw [List.length_append, htoN2]
      have e2 : intsN rest ++ ints (toL b.term) = intsN (rest ++ toN b.term) := by rw [toN_ints hat]; simp [intsN]
      rw [e1] at hq2 ⊢
      rw [e2] at hq3
      refine ⟨3 * (f.blocks.length - cntB f.blocks.length (setB S x)) + (rest ++ toN b.term).length, ?_, setB S x, rest ++ toN b.term, g', off2, c', cs', rfl, hB2, ?_, ⟨hq1, hq2, hq3⟩, ⟨rfl, ?_, rfl, rfl, trivial⟩, ?_⟩
      · rw [List.length_append, List.length_cons]; omega
      · rw [List.length_append]; omega
      · rw [hcs]; rfl
      · rw [← boolsL_set]; rfl
    have hSx : S x = true := by simpa using h2
    refine Cd.skip ?_
    exact ⟨3 * (f.blocks.length - cntB f.blocks.length S) + rest.length, by simp only [List.length_cons]; omega, S, rest, g, off', c - 1, cs, rfl, hB.pop hSx, by omega, ⟨hsz', by omega, hrest⟩, ⟨rfl, rfl, rfl, rfl, trivial⟩, rfl⟩
  have htodo : todo = [] := by
    cases todo with
    | nil => rfl
    | cons x rest => simp only [decide_eq_false_iff_not, List.length_cons] at h; omega
  subst htodo
  have hfin := hB.fin hcl
  rw [htl] at hfin
  refine Cd.exit (id := 4) ?_
  refine Cd.seq ?_
  refine Cd.region ?_
  refine Ol.p mvi ?_
  refine Ol.p asi ?_
  refine Ol.p asb ?_
  refine Ol.nil ?_
  refine Cd.ret ⟨.tuple _, ret2 rfl rfl rfl, [], .nil, ?_, rfl⟩
  rw [hfin]; rfl
end
end Go.Proofs.YtjenaenakopicaaGreat

/- The package ir: whether all that is read has a value; whether a function is right: walked. -/
namespace Go.Proofs.YtjenaenakopicaaGreat
set_option linter.unusedVariables false
open Go Go.RowKit
set_option maxRecDepth 100000

theorem ixi {P : Program} {w0 : World} {B : Nat} {σ : Env} {L : List Res} {d : Option Nat} {ty T : TypeId} {pos : String} {af : Array Edge} {gd : Option (Nat × Bool)} {x y : Operand} {g ix n c e b : Nat} {k : IntKind} (hT : SlT P T e 201 b) (hx : ev σ x = .slice (some ⟨g, 0, none⟩) n c := by exact rfl) (hy : ev σ y = .int k (ix : Int) := by exact rfl) (h : ix < n := by omega) :
    Sd P w0 B ⟨d, .indexAddr T x y, ty, pos, af, gd⟩ σ L (.pointer (some ⟨g, ix * 201, none⟩)) := by
  have := ixo (d := d) (ty := ty) (pos := pos) (af := af) (gd := gd) (P := P) (w0 := w0) (B := B) (L := L) hT hx hy h
  rwa [Nat.zero_add] at this
theorem trn_any {P : Program} {w0 : World} {B : Nat} {σ : Env} {r : Res} {L : List Res} {o : Oper} {v : Value} {g e : Nat} {cs : Array Value} (h : Sp P w0 B o σ (r :: L) (det v (blk g (.cells cs e) :: L))) : Sp P w0 B o σ (r :: L) (Adds (fun v' R => v' = v ∧ ∃ g cs, R = [blk g (.cells cs e)]) L) := fun M w hh =>
  Goes.mono (h M w hh) fun v' w' ⟨L', h1, h2, h3⟩ => ⟨L', h1, [blk g (.cells cs e)], h3, h2, g, cs, rfl⟩
section
set_option maxHeartbeats 8000000 in
theorem ir_valued_ct {w : World} {f : RFun} (hf : FunAt w w.heap.size f) (hfit : Fit f) (hl : longF f = false) (hw : wholeF f = true) (hok : okEs f.terms = true) : Ct Tryz.prog 87 #[f.val] w (Is (.bool (valuedF f))) := by
  have htl : f.terms.length = f.blocks.length := by simp [RFun.terms]
  have hlong : 0 < f.blocks.length ∧ f.blocks.length ≤ 200 ∧ f.params.length ≤ 8 := by
    unfold longF at hl
    simp only [Bool.or_eq_false_iff, decide_eq_false_iff_not] at hl
    omega
  obtain ⟨h0, h200, hp8⟩ := hlong
  have hvar : ∀ n ∈ f.params, 1 ≤ n ∧ n ≤ 200 := fun n hn => by
    rw [whole_split, Bool.and_eq_true, Bool.and_eq_true, List.all_eq_true] at hw
    exact varB_iff.1 (hw.1.1 n hn)
  obtain ⟨n, hn⟩ : ∃ n, n = f.blocks.length := ⟨_, rfl⟩
  have hto : ∀ (a : Nat) (x : RBlk), f.blocks[a]? = some x → ∀ m ∈ toL x.term, 1 ≤ m ∧ m < (n : Int) := fun a x ha m hm => by
    have ht : f.terms[a]? = some x.term := by simp [RFun.terms, ha]
    have := okEs_at hok (a := a) (by rw [toAt_some ht]; exact hm)
    omega
  refine Ct.mk Tryz.func87 rfl rfl ?_
  refine Cd.seq ?_
  refine Cd.region ?_
  refine Ol.x bxg ?_
  rintro _ _ ⟨g1, rfl, rfl⟩
  refine Ol.p asb ?_
  refine Ol.nil ?_
  refine Cd.seq ?_
  refine Cd.region ?_
  refine Ol.p (fdl fd_api_Func_1) ?_
  refine Ol.p (ld one_L_api_Block (Rd.blk (i := 0) rfl rfl)) ?_
  refine Ol.p (lens sl_L_api_Block) ?_
  refine Ol.x (mks (n := f.blocks.length) (c := f.blocks.length) sl_L_ir_set zr_ir_set) ?_
  rintro _ _ ⟨gi, rfl, rfl⟩
  refine Ol.p ass ?_
  refine Ol.nil ?_
  refine Cd.unrow (fun cs hcs1 hcs2 => ?_)
  have hcs : cs = inA n fun _ _ => false := by
    rw [← made_inA, hn]
    apply Array.ext'
    rw [List.take_of_length_le (by simp [hcs1])] at hcs2
    rw [hcs2, List.take_of_length_le (by simp [madeCells, Value.cells])]
    rfl
  subst hcs
  rw [← hn]
  obtain ⟨LF, hLF⟩ : ∃ LF, LF = blk g1 (.cells f.cells.toArray 37) := ⟨_, rfl⟩
  refine Cd.mid (fun σ' L' => Has σ' [(1, .pointer (some ⟨g1, 0, none⟩)), (3, .slice (some ⟨gi, 0, none⟩) n n)] ∧ [blk gi (.cells (inA n fun _ _ => true) 145), LF] = L') ?_ ?_
  · refine Cd.seq ?_
    refine Cd.region ?_
    refine Ol.p mvs ?_
    refine Ol.p (lens sl_L_ir_set) ?_
    refine Ol.p mvi ?_
    refine Ol.nil ?_
    refine Cd.block ?_   -- 0
    refine Cd.loop (fun m σ L => ∃ k, m = n - k ∧ k ≤ n ∧ Has σ [(1, .pointer (some ⟨g1, 0, none⟩)), (3, .slice (some ⟨gi, 0, none⟩) n n), (25, .int .i64 n), (26, .int .i64 k)] ∧ [blk gi (.cells (inA n fun b _ => decide (b < k)) 145), LF] = L) (n := n) ⟨0, rfl, Nat.zero_le _, ⟨rfl, rfl, rfl, rfl, trivial⟩, by rw [hLF, inA_congr (J := fun _ _ => false) (fun b v _ _ => by simp)]⟩ ?_
    rintro _ σ L ⟨k, rfl, hk, hs, rfl⟩
    refine Cd.has hs ?_
    refine Cd.seq ?_
    refine Cd.region ?_
    refine Ol.p lsi ?_
    refine Ol.nil ?_
    refine Cd.seq ?_
    refine Cd.cond rfl (fun h => ?_) (fun h => ?_)   -- $27
    · have hlt : k < n := by
        simp only [decide_eq_true_eq] at h; omega
      refine Cd.skip ?_
      refine Cd.seq ?_
      refine Cd.block ?_   -- 1
      refine Cd.seq ?_
      refine Cd.region ?_
      refine Ol.p mvi ?_
      refine Ol.p asi ?_
      refine Ol.nil ?_
      refine Cd.region ?_
      refine Ol.p mvs ?_
      refine Ol.p mvi ?_
      refine Ol.s (cl en_ir_full (fun M w' hh => ir_full_ct)) ?_
      refine Ol.p (ixi (ix := k) sl_L_ir_set) ?_
      refine Ol.s (sta (k := k * 201) sz_ir_set (encV_size _) (encV_one _) (i := 0) rfl (by rw [inA_size]; have : (k + 1) * 201 ≤ n * 201 := Nat.mul_le_mul_right _ hlt; omega)) ?_
      refine Ol.nil ?_
      refine Cd.region ?_
      refine Ol.p addi ?_
      refine Ol.p mvi ?_
      refine Ol.nil ?_
      refine ⟨n - (k + 1), by omega, k + 1, rfl, by omega, ⟨rfl, rfl, rfl, rfl, trivial⟩, congrArg (fun cs => [blk gi (.cells cs 145), LF]) (Eq.symm ((inA_sta hlt).trans (inA_congr fun b v hb hv => ?_)))⟩
      unfold setI
      by_cases e : b = k
      · rw [if_pos e]; simp [e]
      · rw [if_neg e, decide_eq_decide]; omega
    have hk2 : k = n := by
      simp only [decide_eq_false_iff_not] at h; omega
    subst hk2
    refine Cd.exit (id := 0) ?_
    exact ⟨⟨rfl, rfl, trivial⟩, by rw [inA_congr (I := fun b _ => decide (b < k)) (J := fun _ _ => true) (fun b v hb _ => by simpa using hb)]⟩
  rintro σ' _ ⟨hs', rfl⟩
  refine Cd.has hs' ?_
  clear hs'
  refine Cd.seq ?_
  refine Cd.region ?_
  refine Ol.p mvs ?_
  refine Ol.p (bda (cs := encV fun _ => false) ar_ir_set zr_ir_set (hf := by rw [← zeroV]; rfl)) ?_
  refine Ol.p (ixi (ix := 0) sl_L_ir_set) ?_
  refine Ol.s (sta (k := 0 * 201) sz_ir_set (encV_size _) (encV_one _) (i := 0) rfl (by rw [inA_size]; have : (0 + 1) * 201 ≤ n * 201 := Nat.mul_le_mul_right _ (by omega); omega)) ?_
  refine Ol.nil ?_
  rw [show ((inA n fun _ _ => true).toList.take (0 * 201) ++ (encV fun _ => false).toList ++ (inA n fun _ _ => true).toList.drop (0 * 201 + 201)).toArray = inA n (setI (fun _ _ => true) 0 fun _ => false) from inA_sta (by omega)]
  refine Cd.mid (fun σ' L' => Has σ' [(1, .pointer (some ⟨g1, 0, none⟩)), (3, .slice (some ⟨gi, 0, none⟩) n n)] ∧ ∃ I, Val f I ∧ [blk gi (.cells (inA n I) 145), LF] = L') ?_ ?_
  · refine Cd.seq ?_
    rw [hLF]
    refine Cd.region ?_
    refine Ol.p (fdl fd_api_Func_0) ?_
    refine Ol.p (ld one_L_int (Rd.blk (i := 1) rfl rfl)) ?_
    refine Ol.p (lens sl_L_int) ?_
    refine Ol.p mvi ?_
    refine Ol.nil ?_
    refine Cd.block ?_   -- 2
    refine Cd.loop (fun m σ L => ∃ k s, m = f.params.length - k ∧ k ≤ f.params.length ∧ Has σ [(1, .pointer (some ⟨g1, 0, none⟩)), (3, .slice (some ⟨gi, 0, none⟩) n n), (38, .slice f.pA f.params.length f.pC), (39, .int .i64 f.params.length), (40, .int .i64 k)] ∧ [blk gi (.cells (inA n (setI (fun _ _ => true) 0 s)) 145), LF] = L ∧ ∀ v, s v = true ↔ ∃ p ∈ f.params.take k, p.toNat = v) (n := f.params.length) ⟨0, fun _ => false, rfl, Nat.zero_le _, ⟨rfl, rfl, rfl, rfl, rfl, trivial⟩, by rw [hLF]; rfl, by simp⟩ ?_
    rintro _ σ L ⟨k, s, rfl, hk, hs, rfl, hsv⟩
    refine Cd.has hs ?_
    refine Cd.seq ?_
    refine Cd.region ?_
    refine Ol.p lsi ?_
    refine Ol.nil ?_
    refine Cd.seq ?_
    refine Cd.cond rfl (fun h => ?_) (fun h => ?_)   -- $41
    · have hlt : k < f.params.length := by
        simp only [decide_eq_true_eq] at h; omega
      obtain ⟨p, hp⟩ : ∃ p, f.params[k]? = some p := ⟨_, List.getElem?_eq_getElem hlt⟩
      have hpr := hvar p (List.mem_of_getElem? hp)
      obtain ⟨m, rfl⟩ : ∃ m : Nat, p = (m : Int) := ⟨p.toNat, by omega⟩
      have hm : m < 201 := by omega
      refine Cd.skip ?_
      refine Cd.seq ?_
      refine Cd.block ?_   -- 3
      refine Cd.seq ?_
      refine Cd.region ?_
      refine Ol.p (ixn1 (ix := k) sl_L_int (Som.slc hf.params (by omega))) ?_
      refine Ol.p (ld one_int (Rd.slc hf.params (ints_at hp))) ?_
      refine Ol.p asi ?_
      refine Ol.nil ?_
      refine Cd.region ?_
      refine Ol.p mvs ?_
      refine Ol.p mvi ?_
      refine Ol.p (ixi (ix := 0) sl_L_ir_set) ?_
      refine Ol.p (ixl1 (ix := m) ar_ir_set) ?_
      refine Ol.s (sto (k := m) (.inr sz_bool) rfl rfl (i := 0) rfl (by rw [inA_size]; omega) rfl) ?_
      refine Ol.nil ?_
      refine Cd.region ?_
      refine Ol.p addi ?_
      refine Ol.p mvi ?_
      refine Ol.nil ?_
      have e : (inA n (setI (fun _ _ => true) 0 s)).setIfInBounds m (.bool true) = inA n (setI (fun _ _ => true) 0 (putV s m true)) := by
        have := inA_put (n := n) (b := 0) (v := m) (u := true) (I := setI (fun _ _ => true) 0 s) hm
        rw [Nat.zero_mul, Nat.zero_add] at this
        rw [this]
        refine inA_congr fun b v hb hv => ?_
        unfold setI
        by_cases e : b = 0 <;> simp [e]
      refine ⟨f.params.length - (k + 1), by omega, k + 1, putV s m true, rfl, by omega, ⟨rfl, rfl, rfl, rfl, rfl, trivial⟩, congrArg (fun cs => [blk gi (.cells cs 145), LF]) e.symm, fun v => ?_⟩
      rw [take_snoc_ hp]
      unfold putV
      by_cases e2 : v = m
      · rw [if_pos e2]
        simp only [true_iff]
        exact ⟨(m : Int), by simp, by simp [e2]⟩
      · rw [if_neg e2, hsv]
        constructor
        · rintro ⟨p, h1, h2⟩; exact ⟨p, by simp [h1], h2⟩
        · rintro ⟨p, h1, h2⟩
          rcases List.mem_append.1 h1 with h1 | h1
          · exact ⟨p, h1, h2⟩
          · have : p = (m : Int) := by simpa using h1
            subst this; simp at h2; omega
    have hk2 : k = f.params.length := by
      simp only [decide_eq_false_iff_not] at h; omega
    subst hk2
    rw [List.take_length] at hsv
    refine Cd.exit (id := 2) ?_
    refine ⟨⟨rfl, rfl, trivial⟩, setI (fun _ _ => true) 0 s, ⟨fun v hv => ?_, fun b v hv hb => ?_⟩, by rw [hLF]⟩
    · unfold setI; rw [if_pos rfl]; exact hsv v
    · unfold setI at hb
      by_cases e : b = 0
      · rw [if_pos e] at hb
        rw [e]
        refine .zero fun p hp e2 => ?_
        rw [(hsv v).2 ⟨p, hp, e2⟩] at hb; cases hb
      · rw [if_neg e] at hb; cases hb
  rintro σ' _ ⟨hs', I0, hV0, rfl⟩
  refine Cd.has hs' ?_
  clear hs'
  refine Cd.mid (fun σ' L' => Has σ' [(1, .pointer (some ⟨g1, 0, none⟩)), (3, .slice (some ⟨gi, 0, none⟩) n n)] ∧ ∃ I, (∀ b v, v < 201 → (I b v = false ↔ Bare f v b)) ∧ [blk gi (.cells (inA n I) 145), LF] = L') ?_ ?_
  · refine Cd.seq ?_
    refine Cd.region ?_
    refine Ol.p asb ?_
    refine Ol.nil ?_
    refine Cd.block ?_   -- 4
    refine Cd.loop (fun m σ L => ∃ (I : IV) (mv : Bool), m = muI n I + (if mv = true then 1 else 0) ∧ Val f I ∧ (mv = false → ∀ (a : Nat) (x : RBlk), f.blocks[a]? = some x → ∀ to : Nat, (to : Int) ∈ toL x.term → Stab I (outV x.ins (I a)) to) ∧ Has σ [(1, .pointer (some ⟨g1, 0, none⟩)), (3, .slice (some ⟨gi, 0, none⟩) n n), (7, .bool mv)] ∧ [blk gi (.cells (inA n I) 145), LF] = L) (n := muI n I0 + 1) ⟨I0, true, rfl, hV0, (fun h => by cases h), ⟨rfl, rfl, rfl, trivial⟩, rfl⟩ ?_
    rintro _ σ L ⟨I, mv, rfl, hV, hst, hs, rfl⟩
    refine Cd.has hs ?_
    refine Cd.seq ?_
    refine Cd.seq ?_
    refine Cd.region ?_
    refine Ol.p mvb ?_
    refine Ol.nil ?_
    refine Cd.cond rfl (fun h => ?_) (fun h => ?_)   -- $49
    · subst h
      refine Cd.skip ?_
      refine Cd.block ?_   -- 5
      refine Cd.seq ?_
      refine Cd.region ?_
      refine Ol.p asb ?_
      refine Ol.nil ?_
      refine Cd.seq ?_
      rw [hLF]
      refine Cd.region ?_
      refine Ol.p (fdl fd_api_Func_1) ?_
      refine Ol.p (ld one_L_api_Block (Rd.blk (i := 1) rfl rfl)) ?_
      refine Ol.p (lens sl_L_api_Block) ?_
      refine Ol.p mvi ?_
      refine Ol.nil ?_
      refine Cd.block ?_   -- 6
      refine Cd.loop (fun m σ L => ∃ (k : Nat) (J : IV) (mv : Bool), m = n - k ∧ k ≤ n ∧ Has σ [(1, .pointer (some ⟨g1, 0, none⟩)), (3, .slice (some ⟨gi, 0, none⟩) n n), (7, .bool mv), (51, .slice f.bA f.blocks.length f.bC), (52, .int .i64 n), (53, .int .i64 k)] ∧ [blk gi (.cells (inA n J) 145), LF] = L ∧ Val f J ∧ (mv = true → muI n J < muI n I) ∧
        (mv = false → J = I ∧ ∀ (a : Nat) (x : RBlk), a < k → f.blocks[a]? = some x → ∀ to : Nat, (to : Int) ∈ toL x.term → Stab I (outV x.ins (I a)) to)) (n := n) ⟨0, I, false, rfl, Nat.zero_le _, ⟨rfl, rfl, rfl, rfl, by rw [hn]; rfl, rfl, trivial⟩, by rw [hLF], hV, (fun h => by cases h), fun _ => ⟨rfl, fun a x ha => by omega⟩⟩ ?_
      clear hs
      rintro _ σ L ⟨k, J, mv, rfl, hk, hs, rfl, hVJ, hmt, hmf⟩
      refine Cd.has hs ?_
      refine Cd.seq ?_
      refine Cd.region ?_
      refine Ol.p lsi ?_
      refine Ol.nil ?_
      refine Cd.seq ?_
      refine Cd.cond rfl (fun h => ?_) (fun h => ?_)   -- $54
      · have hlt : k < n := by
          simp only [decide_eq_true_eq] at h; omega
        have hle : (k + 1) * 201 ≤ n * 201 := Nat.mul_le_mul_right _ hlt
        obtain ⟨b, hb⟩ : ∃ b, f.blocks[k]? = some b := ⟨_, List.getElem?_eq_getElem (by omega)⟩
        have hbm := List.mem_of_getElem? hb
        have hba := hf.blk hfit hbm
        have hbl := hba.len
        refine Cd.skip ?_
        refine Cd.seq ?_
        refine Cd.block ?_   -- 7
        refine Cd.seq ?_
        refine Cd.region ?_
        refine Ol.p mvi ?_
        refine Ol.p (ixn (ix := k) sl_L_api_Block (Som.slc hf.blocks (by omega))) ?_
        refine Ol.p (lds (es := b.cells) ag_api_Block hf.blocks b.len (fun j u hu => blk_cell hb hu)) ?_
        refine Ol.x (alc zr_api_Block) ?_
        rintro _ _ ⟨g9, rfl, rfl⟩
        refine Ol.p asi ?_
        refine Ol.s (stw sz_api_Block rfl b.one (i := 0) rfl rfl) ?_
        refine Ol.nil ?_
        refine Cd.seq ?_
        refine Cd.region ?_
        refine Ol.p mvs ?_
        refine Ol.p mvi ?_
        refine Ol.p (ixi (ix := k) sl_L_ir_set) ?_
        refine Ol.p (ldp (k := k * 201) (vs := encV (J k)) ag_ir_set (i := 1) rfl (encV_size _) (inA_load hlt)) ?_
        refine Ol.x (alc zr_ir_set) ?_
        rintro _ _ ⟨g10, rfl, rfl⟩
        refine Ol.s (stw sz_ir_set (encV_size _) (encV_one _) (i := 0) rfl rfl) ?_
        refine Ol.nil ?_
        refine Cd.mid (fun σ' L' => Has σ' [(1, .pointer (some ⟨g1, 0, none⟩)), (3, .slice (some ⟨gi, 0, none⟩) n n), (7, .bool mv), (9, .pointer (some ⟨g9, 0, none⟩)), (10, .pointer (some ⟨g10, 0, none⟩)), (51, .slice f.bA f.blocks.length f.bC), (52, .int .i64 n), (53, .int .i64 k)] ∧ [blk g10 (.cells (encV (outV b.ins (J k))) 145), blk g9 (.cells b.cells.toArray 34), blk gi (.cells (inA n J) 145), LF] = L') ?_ ?_
        · refine Cd.seq ?_
          refine Cd.region ?_
          refine Ol.p (fdl fd_api_Block_0) ?_
          refine Ol.p (ld one_L_api_Ins (Rd.blk (i := 1) rfl rfl)) ?_
          refine Ol.p (lens sl_L_api_Ins) ?_
          refine Ol.p mvi ?_
          refine Ol.nil ?_
          refine Cd.block ?_   -- 8
          refine Cd.loop (fun m σ L => ∃ j, m = b.ins.length - j ∧ j ≤ b.ins.length ∧ Has σ [(1, .pointer (some ⟨g1, 0, none⟩)), (3, .slice (some ⟨gi, 0, none⟩) n n), (7, .bool mv), (9, .pointer (some ⟨g9, 0, none⟩)), (10, .pointer (some ⟨g10, 0, none⟩)), (51, .slice f.bA f.blocks.length f.bC), (52, .int .i64 n), (53, .int .i64 k), (63, .slice b.iA b.ins.length b.iC), (64, .int .i64 b.ins.length), (65, .int .i64 j)] ∧ [blk g10 (.cells (encV (outV (b.ins.take j) (J k))) 145), blk g9 (.cells b.cells.toArray 34), blk gi (.cells (inA n J) 145), LF] = L) (n := b.ins.length) ⟨0, rfl, Nat.zero_le _, ⟨rfl, rfl, rfl, rfl, rfl, rfl, rfl, rfl, rfl, rfl, rfl, trivial⟩, rfl⟩ ?_
          clear hs
          rintro _ σ L ⟨j, rfl, hj, hs, rfl⟩
          refine Cd.has hs ?_
          refine Cd.seq ?_
          refine Cd.region ?_
          refine Ol.p lsi ?_
          refine Ol.nil ?_
          refine Cd.seq ?_
          refine Cd.cond rfl (fun h => ?_) (fun h => ?_)   -- $66
          · have hjl : j < b.ins.length := by
              simp only [decide_eq_true_eq] at h; omega
            obtain ⟨i, hi⟩ : ∃ i, b.ins[j]? = some i := ⟨_, List.getElem?_eq_getElem hjl⟩
            have hia := hba.all i (List.mem_of_getElem? hi)
            have hdef := defI_range i
            obtain ⟨dn, hdn⟩ : ∃ dn : Nat, defI i = (dn : Int) := ⟨(defI i).toNat, by omega⟩
            have hdn2 : dn < 201 := by omega
            refine Cd.skip ?_
            refine Cd.seq ?_
            refine Cd.block ?_   -- 9
            refine Cd.seq ?_
            refine Cd.region ?_
            refine Ol.p (ixn sl_L_api_Ins (Som.slc hba.ins (by omega))) ?_
            refine Ol.p (lds (es := i.cells) ag_api_Ins hba.ins i.len (fun j u hu => ins_cell hi hu)) ?_
            refine Ol.x (alc zr_api_Ins) ?_
            rintro _ _ ⟨g12, rfl, rfl⟩
            refine Ol.s (stw sz_api_Ins rfl i.one (i := 0) rfl rfl) ?_
            refine Ol.nil ?_
            refine Cd.region ?_
            refine Ol.p (ldw ag_api_Ins (i := 0) rfl rfl) ?_
            refine Ol.s (cl en_ir_Defines (fun M w' hh => ir_Defines_ct (hia.now hh))) ?_
            refine Ol.p (ixl1 (ix := dn) ar_ir_set (hy := congrArg (Value.int .i64) hdn)) ?_
            refine Ol.s (sto (k := dn) (.inr sz_bool) rfl rfl (i := 1) rfl (by rw [encV_size]; exact hdn2) rfl) ?_
            refine Ol.keep (.sub (.cons _ (List.Sublist.refl _))) ?_
            refine Ol.nil ?_
            refine Cd.region ?_
            refine Ol.p addi ?_
            refine Ol.p mvi ?_
            refine Ol.nil ?_
            refine ⟨b.ins.length - (j + 1), by omega, j + 1, rfl, by omega, ⟨rfl, rfl, rfl, rfl, rfl, rfl, rfl, rfl, rfl, rfl, rfl, trivial⟩, ?_⟩
            rw [outV_snoc hi, hdn, Int.toNat_natCast]
            exact congrArg (fun cs => [blk g10 (.cells cs 145), blk g9 (.cells b.cells.toArray 34), blk gi (.cells (inA n J) 145), LF]) encV_set.symm
          have hj2 : j = b.ins.length := by
            simp only [decide_eq_false_iff_not] at h; omega
          subst hj2
          rw [List.take_length]
          refine Cd.exit (id := 8) ?_
          exact ⟨⟨rfl, rfl, rfl, rfl, rfl, rfl, rfl, rfl, trivial⟩, rfl⟩
        rintro σ' _ ⟨hs', rfl⟩
        refine Cd.has hs' ?_
        clear hs'
        obtain ⟨O, hO⟩ : ∃ O, O = outV b.ins (J k) := ⟨_, rfl⟩
        have hOut := hVJ.out (a := k) (x := b)
        rw [← hO] at hOut ⊢
        refine Cd.seq ?_
        refine Cd.region ?_
        refine Ol.p (fdl fd_api_Block_1) ?_
        refine Ol.p (ldp (k := 0 + 1) (vs := b.term.cells.toArray) ag_api_Term (i := 1) rfl rfl (fun j u hu => by rw [Nat.zero_add, Nat.add_comm]; simpa [RBlk.cells] using hu)) ?_
        refine Ol.x (sp_call en_ir_To (fun M w' hh => ir_To_ct (t := b.term))) ?_
        rintro _ _ ⟨_, rfl, A75, c75, rfl, rfl⟩
        refine Ol.p (lens sl_L_int) ?_
        refine Ol.p mvi ?_
        refine Ol.nil ?_
        have htb := hto k b hb
        obtain ⟨to, hto2⟩ : ∃ to, to = toL b.term := ⟨_, rfl⟩
        have htoL := toL_len b.term
        rw [← hto2] at htoL htb ⊢
        refine Cd.block ?_   -- 10
        refine Cd.loop (fun m σ L => ∃ (j : Nat) (K : IV) (mv2 : Bool), m = to.length - j ∧ j ≤ to.length ∧ Has σ [(1, .pointer (some ⟨g1, 0, none⟩)), (3, .slice (some ⟨gi, 0, none⟩) n n), (7, .bool mv2), (10, .pointer (some ⟨g10, 0, none⟩)), (51, .slice f.bA f.blocks.length f.bC), (52, .int .i64 n), (53, .int .i64 k), (75, .slice A75 to.length c75), (76, .int .i64 to.length), (77, .int .i64 j)] ∧
          [row (.slice A75 to.length c75) 3 1 to.length (ints to), blk g10 (.cells (encV O) 145), blk g9 (.cells b.cells.toArray 34), blk gi (.cells (inA n K) 145), LF] = L ∧ Val f K ∧ (mv2 = true → muI n K < muI n I) ∧ (mv2 = false → mv = false ∧ K = J ∧ ∀ m ∈ to.take j, Stab J O m.toNat)) (n := to.length) ⟨0, J, mv, rfl, Nat.zero_le _, ⟨rfl, rfl, rfl, rfl, rfl, rfl, rfl, rfl, rfl, rfl, trivial⟩, rfl, hVJ, hmt, fun h => ⟨h, rfl, by simp⟩⟩ ?_
        clear hs
        rintro _ σ L ⟨j, K, mv2, rfl, hj, hs, rfl, hVK, hkt, hkf⟩
        refine Cd.has hs ?_
        refine Cd.seq ?_
        refine Cd.region ?_
        refine Ol.p lsi ?_
        refine Ol.nil ?_
        refine Cd.seq ?_
        refine Cd.cond rfl (fun h => ?_) (fun h => ?_)   -- $78
        · have hjl : j < to.length := by
            simp only [decide_eq_true_eq] at h; omega
          obtain ⟨m, hm⟩ : ∃ m, to[j]? = some m := ⟨_, List.getElem?_eq_getElem hjl⟩
          have hmm := List.mem_of_getElem? hm
          have hmr := htb m hmm
          obtain ⟨q, rfl⟩ : ∃ q : Nat, m = (q : Int) := ⟨m.toNat, by omega⟩
          have hqn : q < n := by omega
          have hqle : (q + 1) * 201 ≤ n * 201 := Nat.mul_le_mul_right _ hqn
          refine Cd.skip ?_
          refine Cd.mid (fun σ' L' => ∃ (K : IV) (mv2 : Bool), Has σ' [(1, .pointer (some ⟨g1, 0, none⟩)), (3, .slice (some ⟨gi, 0, none⟩) n n), (7, .bool mv2), (10, .pointer (some ⟨g10, 0, none⟩)), (51, .slice f.bA f.blocks.length f.bC), (52, .int .i64 n), (53, .int .i64 k), (75, .slice A75 to.length c75), (76, .int .i64 to.length), (77, .int .i64 j)] ∧
            [row (.slice A75 to.length c75) 3 1 to.length (ints to), blk g10 (.cells (encV O) 145), blk g9 (.cells b.cells.toArray 34), blk gi (.cells (inA n K) 145), LF] = L' ∧ Val f K ∧ (mv2 = true → muI n K < muI n I) ∧ (mv2 = false → mv = false ∧ K = J ∧ ∀ m ∈ to.take (j + 1), Stab J O m.toNat)) ?_ ?_
          · refine Cd.block ?_   -- 11
            refine Cd.seq ?_
            refine Cd.region ?_
            refine Ol.p (ixn1 (ix := j) sl_L_int (Som.row (i := 0) rfl (by omega))) ?_
            refine Ol.p (ld one_int (Rd.row (i := 0) rfl (ints_at hm))) ?_
            refine Ol.p asi ?_
            refine Ol.nil ?_
            refine Cd.seq ?_
            obtain ⟨nx, hnx⟩ : ∃ nx : VS, nx = fun v => K q v && O v := ⟨_, rfl⟩
            refine Cd.draw mixed 7 (fun opNo => match opNo with | 5 => some (Is (.agg (encV nx))) | 6 => some (NewPv (.cells (Array.replicate 201 (.bool false)) 145)) | _ => none) (fun _ => []) (by kernel_rfl) (by intro q V h; split at h <;> cases h; exact ⟨_, [], rfl, rfl⟩; exact ⟨_, _, 0, rfl, rfl⟩) (fun u hu => ?_)
            refine Wk.p mvs ?_
            refine Wk.p mvi ?_
            refine Wk.p (ixi (ix := q) sl_L_ir_set) ?_
            refine Wk.p (ldp (k := q * 201) (vs := encV (K q)) ag_ir_set (i := 3) rfl (encV_size _) (inA_load hqn)) ?_
            refine Wk.p (ldw ag_ir_set (i := 1) rfl (encV_size _)) ?_
            refine Wk.x (V := Is (.agg (encV nx))) hu (by rw [hnx]; exact sp_call en_ir_set_meet (fun M w' hh => ir_set_meet_ct)) ?_
            rintro _ _ hu5 ⟨rfl, rfl⟩
            refine Wk.x (V := NewPv (.cells (Array.replicate 201 (.bool false)) 145)) hu (NewP.adds (alc zr_ir_set)) ?_
            rintro _ _ hu6 ⟨g15, rfl, rfl⟩
            refine Wk.nil ?_
            rw [needs_cons hu6, needs_cons hu5, needs_none]
            refine Ol.s (stw sz_ir_set (encV_size _) (encV_one _) (i := 0) rfl rfl) ?_
            refine Ol.nil ?_
            refine Cd.seq ?_
            refine Cd.draw mixed 6 (fun _ => none) (fun _ => []) (by kernel_rfl) (fun _ _ h => by cases h) (fun u hu => ?_)
            refine Wk.p (ldw ag_ir_set (i := 0) rfl (encV_size _)) ?_
            refine Wk.p mvs ?_
            refine Wk.p mvi ?_
            refine Wk.p (ixi (ix := q) sl_L_ir_set) ?_
            refine Wk.p (ldp (k := q * 201) (vs := encV (K q)) ag_ir_set (i := 4) rfl (encV_size _) (inA_load hqn)) ?_
            refine Wk.p (nea cm_ir_set (encV_size _) (encV_size _) encV_tell (sameV_iff (s := nx) (t := K q))) ?_
            refine Wk.nil ?_
            refine Ol.nil ?_
            have hle2 : ∀ v, v < 201 → nx v = true → K q v = true := fun v _ h => by
              rw [hnx] at h
              exact (Bool.and_eq_true_iff.1 h).1
            refine Cd.cond rfl (fun h2 => ?_) (fun h2 => ?_)   -- $92
            · have hns : sameV nx (K q) = false := by simpa using h2
              have hmu : muI n (setI K q nx) < muI n K := by
                refine muI_set hqn ?_
                unfold sameV at hns
                rw [List.all_eq_false] at hns
                obtain ⟨v, hv, h3⟩ := hns
                have hv : v < 201 := by simpa using hv
                have h3 : nx v ≠ K q v := by simpa using h3
                have h4 := hle2 v hv
                cases h5 : nx v with
                | true => rw [h5] at h3 h4; exact absurd (h4 rfl).symm h3
                | false =>
                  cases h6 : K q v with
                  | false => rw [h5, h6] at h3; exact absurd rfl h3
                  | true => exact cntB_lt hle2 hv h5 h6
              refine Cd.region ?_
              refine Ol.p mvs ?_
              refine Ol.p mvi ?_
              refine Ol.p (ldw ag_ir_set (i := 0) rfl (encV_size _)) ?_
              refine Ol.p (ixi (ix := q) sl_L_ir_set) ?_
              refine Ol.s (sta (k := q * 201) sz_ir_set (encV_size _) (encV_one _) (i := 4) rfl (by rw [inA_size]; omega)) ?_
              refine Ol.p asb ?_
              refine Ol.keep (.sub (.cons _ (List.Sublist.refl _))) ?_
              refine Ol.nil ?_
              refine ⟨setI K q nx, true, ⟨rfl, rfl, rfl, rfl, rfl, rfl, rfl, rfl, rfl, rfl, trivial⟩, congrArg (fun cs => [row (.slice A75 to.length c75) 3 1 to.length (ints to), blk g10 (.cells (encV O) 145), blk g9 (.cells b.cells.toArray 34), blk gi (.cells cs 145), LF]) (inA_sta hqn).symm, ?_, fun _ => ?_, fun h => by cases h⟩
              · rw [hnx]
                exact hVK.turn hb (by rw [← hto2]; exact hmm) (by omega) hOut
              · cases hmv : mv2 with
                | true => have := hkt hmv; omega
                | false =>
                  obtain ⟨h7, h8, _⟩ := hkf hmv
                  have h9 := (hmf h7).1
                  rw [h8, h9] at hmu
                  rw [h8, h9]; exact hmu
            have hss : sameV nx (K q) = true := by simpa using h2
            refine Cd.keep (.sub (.cons _ (List.Sublist.refl _))) ?_
            refine Cd.skip ?_
            refine ⟨K, mv2, ⟨rfl, rfl, rfl, rfl, rfl, rfl, rfl, rfl, rfl, rfl, trivial⟩, rfl, hVK, hkt, fun h => ?_⟩
            obtain ⟨h7, h8, h9⟩ := hkf h
            refine ⟨h7, h8, fun m hm2 => ?_⟩
            rw [take_snoc_ hm] at hm2
            rcases List.mem_append.1 hm2 with h3 | h3
            · exact h9 m h3
            · have e : m = (q : Int) := by simpa using h3
              subst e
              rw [Int.toNat_natCast]
              intro v hv hJ
              have h10 := sameV_at hss hv
              rw [hnx] at h10
              rw [h8] at h10
              have h10 : (J q v && O v) = J q v := h10
              rw [hJ, Bool.true_and] at h10
              exact h10
          rintro σ' _ ⟨K, mv2, hs', rfl, hVK, hkt, hkf⟩
          refine Cd.has hs' ?_
          refine Cd.region ?_
          refine Ol.p addi ?_
          refine Ol.p mvi ?_
          refine Ol.nil ?_
          exact ⟨to.length - (j + 1), by omega, j + 1, K, mv2, rfl, by omega, ⟨rfl, rfl, rfl, rfl, rfl, rfl, rfl, rfl, rfl, rfl, trivial⟩, rfl, hVK, hkt, hkf⟩
        have hj2 : j = to.length := by
          simp only [decide_eq_false_iff_not] at h; omega
        subst hj2
        rw [List.take_length] at hkf
        refine Cd.exit (id := 10) ?_
        refine Cd.keep (.sub (.cons _ (.cons _ (.cons _ (List.Sublist.refl _))))) ?_
        refine Cd.region ?_
        refine Ol.p addi ?_
        refine Ol.p mvi ?_
        refine Ol.nil ?_
        refine ⟨n - (k + 1), by omega, k + 1, K, mv2, rfl, by omega, ⟨rfl, rfl, rfl, rfl, rfl, rfl, trivial⟩, rfl, hVK, hkt, fun h => ?_⟩
        obtain ⟨h7, h8, h9⟩ := hkf h
        obtain ⟨h10, h11⟩ := hmf h7
        refine ⟨h8.trans h10, fun a x ha hx t ht => ?_⟩
        by_cases e : a = k
        · subst e
          rw [hb] at hx
          cases hx
          have := h9 (t : Int) (by rw [hto2]; exact ht)
          rw [hO, h10, Int.toNat_natCast] at this
          exact this
        · exact h11 a x (by omega) hx t ht
      have hk2 : k = n := by
        simp only [decide_eq_false_iff_not] at h; omega
      subst hk2
      refine Cd.exit (id := 6) ?_
      refine ⟨muI k J + (if mv = true then 1 else 0), ?_, J, mv, rfl, hVJ, fun h a x hx t ht => ?_, ⟨rfl, rfl, rfl, trivial⟩, by rw [hLF]⟩
      · cases hmv : mv with
        | true => have := hmt hmv; simp only [if_true]; omega
        | false => have := (hmf hmv).1; rw [this]; simp
      · obtain ⟨h10, h11⟩ := hmf h
        rw [h10]
        exact h11 a x (by rw [hn]; exact (List.getElem?_eq_some_iff.1 hx).1) hx t ht
    refine Cd.exit (id := 4) ?_
    exact ⟨⟨rfl, rfl, trivial⟩, I, fun b v hv => hV.fin (hst h) hv, rfl⟩
  rintro σ' _ ⟨hs', I, hI, rfl⟩
  refine Cd.has hs' ?_
  clear hs'
  have hval := valued_of hI
  refine Cd.seq ?_
  refine Cd.seq ?_
  rw [hLF]
  refine Cd.region ?_
  refine Ol.p (fdl fd_api_Func_1) ?_
  refine Ol.p (ld one_L_api_Block (Rd.blk (i := 1) rfl rfl)) ?_
  refine Ol.p (lens sl_L_api_Block) ?_
  refine Ol.p mvi ?_
  refine Ol.nil ?_
  refine Cd.block ?_   -- 12
  refine Cd.loop (fun m σ L => ∃ k, m = n - k ∧ k ≤ n ∧ Has σ [(3, .slice (some ⟨gi, 0, none⟩) n n), (100, .slice f.bA f.blocks.length f.bC), (101, .int .i64 n), (102, .int .i64 k)] ∧ [blk gi (.cells (inA n I) 145), LF] = L ∧ ∀ (b : Nat) (x : RBlk), b < k → f.blocks[b]? = some x → okPast x.ins x.term (I b) = true) (n := n) ⟨0, rfl, Nat.zero_le _, ⟨rfl, rfl, by rw [hn]; rfl, rfl, trivial⟩, by rw [hLF], fun b x hb => by omega⟩ ?_
  rintro _ σ L ⟨k, rfl, hk, hs, rfl, hall⟩
  refine Cd.has hs ?_
  refine Cd.seq ?_
  refine Cd.region ?_
  refine Ol.p lsi ?_
  refine Ol.nil ?_
  refine Cd.seq ?_
  refine Cd.cond rfl (fun h => ?_) (fun h => ?_)   -- $103
  · have hlt : k < n := by
      simp only [decide_eq_true_eq] at h; omega
    obtain ⟨b, hb⟩ : ∃ b, f.blocks[k]? = some b := ⟨_, List.getElem?_eq_getElem (by omega)⟩
    have hba := hf.blk hfit (List.mem_of_getElem? hb)
    refine Cd.skip ?_
    refine Cd.seq ?_
    refine Cd.block ?_   -- 13
    refine Cd.seq ?_
    refine Cd.region ?_
    refine Ol.p mvi ?_
    refine Ol.p (ixn (ix := k) sl_L_api_Block (Som.slc hf.blocks (by omega))) ?_
    refine Ol.p (lds (es := b.cells) ag_api_Block hf.blocks b.len (fun j u hu => blk_cell hb hu)) ?_
    refine Ol.x (alc zr_api_Block) ?_
    rintro _ _ ⟨g17, rfl, rfl⟩
    refine Ol.p asi ?_
    refine Ol.s (stw sz_api_Block rfl b.one (i := 0) rfl rfl) ?_
    refine Ol.nil ?_
    refine Cd.seq ?_
    refine Cd.drawT (L0 := [blk g17 (.cells b.cells.toArray 34), blk gi (.cells (inA n I) 145), LF]) mixed 11 (fun opNo => match opNo with | 5 => some (fun v R => ∃ s', v = .tuple #[.agg (encV s'), .bool (okPast b.ins b.term (I k))] ∧ R = []) | 9 => some (NewPv (.cells (Array.replicate 201 (.bool false)) 145)) | 10 => some (fun v R => v = undef ∧ ∃ g cs, R = [blk g (.cells cs 145)]) | _ => none) (fun opNo => match opNo with | 10 => [9] | _ => []) (fun opNo => match opNo with | 10 => some 9 | _ => none) [] (fun _ => []) (by kernel_rfl) (.refl _) (by intro c hc; cases hc) (by intro q V h; split at h <;> cases h; exact ⟨_, _, fun _ => false, rfl, rfl⟩; exact ⟨_, _, 0, rfl, rfl⟩; exact ⟨_, _, rfl, 0, #[], rfl⟩) (fun u hu hu0 => ?_)
    refine WkT.p mvs ?_
    refine WkT.p mvi ?_
    refine WkT.p (ixi (ix := k) sl_L_ir_set) ?_
    refine WkT.p (ldp (k := k * 201) (vs := encV (I k)) ag_ir_set (i := 1) rfl (encV_size _) (inA_load hlt)) ?_
    refine WkT.p (ldw ag_api_Block (i := 0) rfl rfl) ?_
    refine WkT.xn (V := fun v R => ∃ s', v = .tuple #[.agg (encV s'), .bool (okPast b.ins b.term (I k))] ∧ R = []) (l := []) (l2 := []) hu rfl rfl rfl (by rw [needs_none]; exact (sp_call en_ir_set_past (fun M w' hh => ir_set_past_ct (s := I k) (hba.now hh)))) ?_
    rintro _ _ hu5 ⟨s5, rfl, rfl⟩
    refine WkT.p mvt ?_
    refine WkT.p extv ?_
    refine WkT.p extv ?_
    refine WkT.xn (V := NewPv (.cells (Array.replicate 201 (.bool false)) 145)) (l := []) (l2 := []) hu rfl rfl rfl (by rw [needs_none]; exact (NewP.adds (alc zr_ir_set))) ?_
    rintro _ _ hu9 ⟨g18, rfl, rfl⟩
    refine WkT.xn (V := fun v R => v = undef ∧ ∃ g cs, R = [blk g (.cells cs 145)]) (l := [9]) (l2 := []) hu rfl rfl rfl (by rw [needs_cons hu9, needs_none]; exact (trn_any (stw sz_ir_set (encV_size _) (encV_one _) (i := 0) rfl rfl))) ?_
    rintro _ _ hu10 ⟨rfl, g18b, cs18, rfl⟩
    refine WkT.nil ?_
    change Ol _ _ _ _ _ (needs u [10, 5] _)
    rw [needs_cons hu10, needs_cons hu5, needs_none]
    refine Ol.p asb ?_
    refine Ol.nil ?_
    refine Cd.seq ?_
    refine Cd.region ?_
    refine Ol.p mvb ?_
    refine Ol.p noti ?_
    refine Ol.nil ?_
    refine Cd.cond rfl (fun h2 => ?_) (fun h2 => ?_)   -- $117
    · have h3 : okPast b.ins b.term (I k) = false := by simpa using h2
      refine Cd.seq ?_
      refine Cd.region ?_
      refine Ol.p asb ?_
      refine Ol.nil ?_
      refine Cd.ret ⟨.bool _, ret1 rfl rfl, [], .nil, ?_, rfl⟩
      have : valuedF f = false := by
        rw [hval, List.all_eq_false]
        refine ⟨k, by simp; omega, ?_⟩
        rw [hb]
        simp [h3]
      rw [this]
    have h3 : okPast b.ins b.term (I k) = true := by simpa using h2
    refine Cd.keep (.sub (.cons _ (.cons _ (List.Sublist.refl _)))) ?_
    refine Cd.skip ?_
    refine Cd.region ?_
    refine Ol.p addi ?_
    refine Ol.p mvi ?_
    refine Ol.nil ?_
    refine ⟨n - (k + 1), by omega, k + 1, rfl, by omega, ⟨rfl, rfl, rfl, rfl, trivial⟩, rfl, fun c x hc hx => ?_⟩
    by_cases e : c = k
    · subst e
      rw [hb] at hx; cases hx
      exact h3
    · exact hall c x (by omega) hx
  have hk2 : k = n := by
    simp only [decide_eq_false_iff_not] at h; omega
  subst hk2
  refine Cd.exit (id := 12) ?_
  refine Cd.seq ?_
  refine Cd.region ?_
  refine Ol.p asb ?_
  refine Ol.nil ?_
  refine Cd.ret ⟨.bool _, ret1 rfl rfl, [], .nil, ?_, rfl⟩
  have : valuedF f = true := by
    rw [hval, List.all_eq_true]
    intro b hb
    have hb : b < f.blocks.length := by simpa using hb
    have h3 := hall b _ (by omega) (List.getElem?_eq_getElem hb)
    rw [List.getElem?_eq_getElem hb]
    exact h3
  rw [this]
end
end Go.Proofs.YtjenaenakopicaaGreat

/- The package ir: whether a function is right, walked. -/
namespace Go.Proofs.YtjenaenakopicaaGreat
set_option linter.unusedVariables false
open Go Go.RowKit
set_option maxRecDepth 100000

noncomputable def rightF (f : RFun) : Int := bif longF f then 3 else bif !wholeF f then 2 else bif !okEs f.terms || decide ((orderF f.terms).length < f.blocks.length) then 9 else bif !valuedF f then 8 else 0
theorem rightF_iff {f : RFun} : rightF f = 0 ↔ longF f = false ∧ wholeF f = true ∧ okEs f.terms = true ∧ f.blocks.length ≤ (orderF f.terms).length ∧ valuedF f = true := by
  unfold rightF
  cases longF f <;> cases wholeF f <;> cases okEs f.terms <;> cases valuedF f <;> cases h : decide ((orderF f.terms).length < f.blocks.length) <;> simp_all
theorem long_parts {f : RFun} (h : longF f = false) : 0 < f.blocks.length ∧ f.blocks.length ≤ 200 ∧ f.params.length ≤ 8 ∧ ∀ b ∈ f.blocks, b.ins.length ≤ 64 := by
  unfold longF at h
  simp only [Bool.or_eq_false_iff, decide_eq_false_iff_not, List.any_eq_false] at h
  exact ⟨by omega, by omega, by omega, fun b hb => by have := h.2 b hb; simp at this; omega⟩
section
set_option maxHeartbeats 1000000 in
theorem ir_Right_ct {w : World} {f : RFun} (hf : FunAt w w.heap.size f) (hfit : Fit f) : Ct Tryz.prog 46 #[f.val] w (Is (.int .i64 (rightF f))) := by
  refine Ct.mk Tryz.func46 rfl rfl ?_
  refine Cd.seq ?_
  refine Cd.region ?_
  refine Ol.x bxg ?_
  rintro _ _ ⟨g1, rfl, rfl⟩
  refine Ol.p asi ?_
  refine Ol.nil ?_
  refine Cd.seq ?_
  refine Cd.seq ?_
  refine Cd.region ?_
  refine Ol.p (ldw ag_api_Func (i := 0) rfl rfl) ?_
  refine Ol.s (cl en_ir_long (fun M w' hh => ir_long_ct (hf.now hh) hfit)) ?_
  refine Ol.nil ?_
  refine Cd.cond rfl (fun hl => ?_) (fun hl => ?_)   -- $6
  · refine Cd.seq ?_
    refine Cd.region ?_
    refine Ol.p asi ?_
    refine Ol.nil ?_
    exact Cd.ret ⟨.int .i64 _, ret1 rfl rfl, [], .nil, by unfold rightF; rw [hl]; rfl, rfl⟩
  obtain ⟨h0, h200, _, _⟩ := long_parts hl
  refine Cd.skip ?_
  refine Cd.seq ?_
  refine Cd.seq ?_
  refine Cd.region ?_
  refine Ol.p (ldw ag_api_Func (i := 0) rfl rfl) ?_
  refine Ol.s (cl en_ir_whole (fun M w' hh => ir_whole_ct (hf.now hh) hfit)) ?_
  refine Ol.p noti ?_
  refine Ol.nil ?_
  refine Cd.cond rfl (fun hw => ?_) (fun hw => ?_)   -- $9
  · refine Cd.seq ?_
    refine Cd.region ?_
    refine Ol.p asi ?_
    refine Ol.nil ?_
    exact Cd.ret ⟨.int .i64 _, ret1 rfl rfl, [], .nil, by unfold rightF; rw [hl, hw]; rfl, rfl⟩
  have hwt : wholeF f = true := by simpa using hw
  have e1 : rightF f = bif !okEs f.terms || decide ((orderF f.terms).length < f.blocks.length) then 9 else bif !valuedF f then 8 else 0 := by unfold rightF; rw [hl, hw]; rfl
  refine Cd.skip ?_
  refine Cd.seq ?_
  cases hok : okEs f.terms with
  | false =>
    refine Cd.seq ?_
    refine Cd.region ?_
    refine Ol.p (ldw ag_api_Func (i := 0) rfl rfl) ?_
    refine Ol.s (cl en_ir_reach (fun M w' hh => ir_reach_ct (hf.now hh) hfit h0 h200)) ?_
    refine Ol.p (mv (by rw [hok])) ?_
    refine Ol.p extv ?_
    refine Ol.p extv ?_
    refine Ol.p asi ?_
    refine Ol.p asb ?_
    refine Ol.nil ?_
    refine Cd.seq ?_
    refine Cd.region ?_
    refine Ol.p mvb ?_
    refine Ol.p noti ?_
    refine Ol.p mvb ?_
    refine Ol.gn rfl ?_
    refine Ol.gn rfl ?_
    refine Ol.gn rfl ?_
    refine Ol.gn rfl ?_
    refine Ol.gn rfl ?_
    refine Ol.p (pkTb rfl) ?_
    refine Ol.nil ?_
    refine Cd.cond rfl (fun h => ?_) (fun h => by cases h)   -- $23
    refine Cd.seq ?_
    refine Cd.region ?_
    refine Ol.p asi ?_
    refine Ol.nil ?_
    exact Cd.ret ⟨.int .i64 _, ret1 rfl rfl, [], .nil, by rw [e1, hok]; rfl, rfl⟩
  | true =>
    have e2 : decide (((orderF f.terms).length : Int) < (f.blocks.length : Int)) = decide ((orderF f.terms).length < f.blocks.length) := by rw [decide_eq_decide]; omega
    refine Cd.seq ?_
    refine Cd.region ?_
    refine Ol.p (ldw ag_api_Func (i := 0) rfl rfl) ?_
    refine Ol.s (cl en_ir_reach (fun M w' hh => ir_reach_ct (hf.now hh) hfit h0 h200)) ?_
    refine Ol.p (mv (by rw [hok])) ?_
    refine Ol.p extv ?_
    refine Ol.p extv ?_
    refine Ol.p asi ?_
    refine Ol.p asb ?_
    refine Ol.nil ?_
    refine Cd.seq ?_
    refine Cd.region ?_
    refine Ol.p mvb ?_
    refine Ol.p noti ?_
    refine Ol.p mvb ?_
    refine Ol.gp rfl mvi ?_
    refine Ol.gp rfl (fdl fd_api_Func_1) ?_
    refine Ol.gp rfl (ld one_L_api_Block (Rd.blk (i := 0) rfl rfl)) ?_
    refine Ol.gp rfl (lens sl_L_api_Block) ?_
    refine Ol.gp rfl lsi ?_
    refine Ol.p (pkFb rfl) ?_
    refine Ol.nil ?_
    rw [e2]
    refine Cd.cond rfl (fun h => ?_) (fun h => ?_)   -- $23
    · refine Cd.seq ?_
      refine Cd.region ?_
      refine Ol.p asi ?_
      refine Ol.nil ?_
      exact Cd.ret ⟨.int .i64 _, ret1 rfl rfl, [], .nil, by rw [e1, hok, h]; rfl, rfl⟩
    refine Cd.skip ?_
    refine Cd.seq ?_
    refine Cd.seq ?_
    refine Cd.region ?_
    refine Ol.p (ldw ag_api_Func (i := 0) rfl rfl) ?_
    refine Ol.s (cl en_ir_valued (fun M w' hh => ir_valued_ct (hf.now hh) hfit hl hwt hok)) ?_
    refine Ol.p noti ?_
    refine Ol.nil ?_
    refine Cd.cond rfl (fun h2 => ?_) (fun h2 => ?_)   -- $26
    · refine Cd.seq ?_
      refine Cd.region ?_
      refine Ol.p asi ?_
      refine Ol.nil ?_
      exact Cd.ret ⟨.int .i64 _, ret1 rfl rfl, [], .nil, by rw [e1, hok, h, h2]; rfl, rfl⟩
    refine Cd.skip ?_
    refine Cd.seq ?_
    refine Cd.region ?_
    refine Ol.p asi ?_
    refine Ol.nil ?_
    exact Cd.ret ⟨.int .i64 _, ret1 rfl rfl, [], .nil, by rw [e1, hok, h, h2]; rfl, rfl⟩
end
end Go.Proofs.YtjenaenakopicaaGreat

/- Lists of resources told apart by counting. -/
namespace Go.Proofs.YtjenaenakopicaaGreat
theorem perm_count {α : Type} {l l' : List α} (h : ∀ (_ : DecidableEq α) (x : α), l.count x = l'.count x) : l.Perm l' := by
  haveI : DecidableEq α := fun a b => Classical.propDecidable (a = b)
  exact List.perm_iff_count.2 fun x => h _ x
theorem keep_count {L L' : List Res} (D : List Res) (h : ∀ (_ : DecidableEq Res) (x : Res), L.count x = (L' ++ D).count x) : Keep L L' := ⟨D, perm_count h⟩
end Go.Proofs.YtjenaenakopicaaGreat

/- The package run: what an Op makes of two values; pointers, maps against nil; interfaces. -/
namespace Go.Proofs.YtjenaenakopicaaGreat
set_option linter.unusedVariables false
open Go Go.RowKit
set_option maxRecDepth 100000

section
variable {P : Program} {w0 : World} {B : Nat} {σ : Env} {L : List Res} {d : Option Nat} {ty T : TypeId} {pos : String} {af : Array Edge} {gd : Option (Nat × Bool)} {x y z : Operand} {v : Value}
theorem eqGuard_pointer {op : BinOp} {a b : Option Addr} {w : World} : (eqGuard op T x y (.pointer a) (.pointer b)).run P w = .ok () w := by cases op <;> rfl
theorem eqGuard_map {op : BinOp} {a b : Option Nat} {w : World} : (eqGuard op T x y (.map a) (.map b)).run P w = .ok () w := by cases op <;> rfl
/-- Is a pointer nil? a map? -/
theorem epn {u : TypeId} {p : Option Addr} (hT : P.underlying T = some (.pointer (P.pointee T))) (hx : ev σ x = .pointer p := by exact rfl) (hy : ev σ y = .pointer none := by exact rfl) : Sd P w0 B ⟨d, .binOp .eql T x y u, ty, pos, af, gd⟩ σ L (.bool p.isNone) := sp_val fun w => by
  have h := run_equal_pointer_nil (P := P) w T p hT
  simp [execOp, hx, hy, binOp, eqGuard_pointer, h]
theorem emn {u k e : TypeId} {p : Option Nat} (hT : P.underlying T = some (.map k e)) (hx : ev σ x = .map p := by exact rfl) (hy : ev σ y = .map none := by exact rfl) : Sd P w0 B ⟨d, .binOp .eql T x y u, ty, pos, af, gd⟩ σ L (.bool p.isNone) := sp_val fun w => by
  have h := run_equal_map_nil (P := P) w T k e p hT
  simp [execOp, hx, hy, binOp, eqGuard_map, h]
theorem mki (hT : P.concrete T = true) (hx : ev σ x = v) : Sd P w0 B ⟨d, .makeInterface T x, ty, pos, af, gd⟩ σ L (.iface T v) := sp_val fun w => by
  have h := run_makeInterface (P := P) w T v hT
  simp [execOp, hx, h]
/-- x.(T). -/
def AsT (P : Program) (v : Value) (T U : TypeId) (c : Bool) (r : Value) : Prop := ∀ w, (Instr.typeAssert v T U c).run P w = .ok r w
theorem tas {U : TypeId} {c : Bool} {r : Value} (hT : AsT P v T U c r) (hx : ev σ x = v) : Sd P w0 B ⟨d, .typeAssert x T U c, ty, pos, af, gd⟩ σ L r := sp_val fun w => by
  have h := hT w
  simp [execOp, hx, h]
theorem ngw {u : TypeId} {a : Int} (hx : ev σ x = .int .i64 a := by exact rfl) : Sd P w0 B ⟨d, .unOp .neg T x, ty, pos, af, gd⟩ σ L ((.int .i64 (IntKind.i64.wrap (-a)))) := sp_val fun _ => by
  simp [execOp, hx, Op.unary, Op.intArith]
end
def wI (x : Int) : Int := IntKind.i64.wrap x
def andF (a b : Int) : Int := wI ((BitVec.ofInt IntKind.i64.bits a &&& BitVec.ofInt IntKind.i64.bits b).toNat)
def orF (a b : Int) : Int := wI ((BitVec.ofInt IntKind.i64.bits a ||| BitVec.ofInt IntKind.i64.bits b).toNat)
def xorF (a b : Int) : Int := wI ((BitVec.ofInt IntKind.i64.bits a ^^^ BitVec.ofInt IntKind.i64.bits b).toNat)
def truthF (b : Bool) : Int := bif b then 1 else 0
def calcF (o a b : Int) : Int × Bool :=
  if o = 2 then (wI (a + b), true) else if o = 3 then (wI (a - b), true) else if o = 4 then (wI (a * b), true) else if o = 6 then (andF a b, true) else if o = 7 then (orF a b, true) else
  if o = 8 then (xorF a b, true) else if o = 9 then (truthF (decide (a < b)), true) else if o = 10 then (truthF (decide (a = b)), true) else if o = 5 ∧ b ≠ 0 then (wI (a.tdiv b), true) else (0, false)
def calcV (o a b : Int) : Value := .tuple #[.int .i64 (calcF o a b).1, .bool (calcF o a b).2]
theorem calcV_of {o a b r : Int} {c : Bool} (h : calcF o a b = (r, c)) : Value.tuple #[.int .i64 r, .bool c] = calcV o a b := by unfold calcV; rw [h]
theorem pt_P_run_Run : Tryz.prog.underlying 54 = some (.pointer (Tryz.prog.pointee 54)) := by kernel_rfl
theorem co_run_spot : Tryz.prog.concrete 89 = true := by kernel_rfl
theorem co_run_done : Tryz.prog.concrete 91 = true := by kernel_rfl
theorem as_spot {v : Value} : AsT Tryz.prog (.iface 89 v) 20 89 true (.tuple #[v, .bool true]) := fun w => by kernel_rfl
theorem as_done {v : Value} : AsT Tryz.prog (.iface 91 v) 20 89 true (.tuple #[.agg #[.int .i64 0, .int .i64 0], .bool false]) := fun w => by kernel_rfl
theorem as_done2 {v : Value} : AsT Tryz.prog (.iface 91 v) 20 91 false v := fun w => by kernel_rfl
section
theorem run_truth_ct {w : World} {b : Bool} : Ct Tryz.prog 105 #[.bool b] w (Is (.int .i64 (truthF b))) := by
  refine Ct.mk Tryz.func105 rfl rfl ?_
  refine Cd.seq ?_
  refine Cd.region ?_
  refine Ol.p asi ?_
  refine Ol.nil ?_
  refine Cd.seq ?_
  refine Cd.seq ?_
  refine Cd.region ?_
  refine Ol.p mvb ?_
  refine Ol.nil ?_
  refine Cd.cond rfl (fun h => ?_) (fun h => ?_)
  · refine Cd.seq ?_
    refine Cd.region ?_
    refine Ol.p asi ?_
    refine Ol.nil ?_
    exact Cd.ret ⟨.int .i64 _, ret1 rfl rfl, [], .nil, by rw [h]; rfl, rfl⟩
  refine Cd.skip ?_
  refine Cd.seq ?_
  refine Cd.region ?_
  refine Ol.p asi ?_
  refine Ol.nil ?_
  exact Cd.ret ⟨.int .i64 _, ret1 rfl rfl, [], .nil, by rw [h]; rfl, rfl⟩
end
section
theorem ref08_bit_ct {w : World} {b : Bool} : Ct Tryz.prog 106 #[.bool b] w (Is (.int .i64 (truthF b))) := by
  refine Ct.mk Tryz.func106 rfl rfl ?_
  refine Cd.seq ?_
  refine Cd.region ?_
  refine Ol.p asi ?_
  refine Ol.nil ?_
  refine Cd.seq ?_
  refine Cd.seq ?_
  refine Cd.region ?_
  refine Ol.p mvb ?_
  refine Ol.nil ?_
  refine Cd.cond rfl (fun h => ?_) (fun h => ?_)
  · refine Cd.seq ?_
    refine Cd.region ?_
    refine Ol.p asi ?_
    refine Ol.nil ?_
    exact Cd.ret ⟨.int .i64 _, ret1 rfl rfl, [], .nil, by rw [h]; rfl, rfl⟩
  refine Cd.skip ?_
  refine Cd.seq ?_
  refine Cd.region ?_
  refine Ol.p asi ?_
  refine Ol.nil ?_
  exact Cd.ret ⟨.int .i64 _, ret1 rfl rfl, [], .nil, by rw [h]; rfl, rfl⟩
end
section
set_option maxHeartbeats 2000000 in
theorem run_Calc_ct {w : World} {o a b : Int} : Ct Tryz.prog 68 #[.int .i64 o, .int .i64 a, .int .i64 b] w (Is (calcV o a b)) := by
  refine Ct.mk Tryz.func68 rfl rfl ?_
  refine Cd.seq ?_
  refine Cd.region ?_
  refine Ol.p asi ?_
  refine Ol.p asb ?_
  refine Ol.nil ?_
  refine Cd.seq ?_
  refine Cd.seq ?_
  refine Cd.region ?_
  refine Ol.p mvi ?_
  refine Ol.nil ?_
  refine Cd.block ?_
  refine Cd.seq ?_
  refine Cd.region ?_
  refine Ol.p eqi ?_
  refine Ol.p asb ?_
  refine Ol.nil ?_
  refine Cd.cond rfl (fun h => ?_) (fun h => ?_)
  · have ho : o = 2 := by simpa using h
    refine Cd.seq ?_
    refine Cd.region ?_
    refine Ol.p mvi ?_
    refine Ol.p mvi ?_
    refine Ol.p (arw (.inl rfl)) ?_
    refine Ol.p asi ?_
    refine Ol.p asb ?_
    refine Ol.nil ?_
    exact Cd.ret ⟨.tuple _, ret2 rfl rfl rfl, [], .nil, calcV_of (by subst ho; simp [calcF]; try rfl), rfl⟩
  have h2 : ¬ o = 2 := by simpa using h
  clear h
  refine Cd.seq ?_
  refine Cd.region ?_
  refine Ol.p eqi ?_
  refine Ol.p asb ?_
  refine Ol.nil ?_
  refine Cd.cond rfl (fun h => ?_) (fun h => ?_)
  · have ho : o = 3 := by simpa using h
    refine Cd.seq ?_
    refine Cd.region ?_
    refine Ol.p mvi ?_
    refine Ol.p mvi ?_
    refine Ol.p (arw (.inr (.inl rfl))) ?_
    refine Ol.p asi ?_
    refine Ol.p asb ?_
    refine Ol.nil ?_
    exact Cd.ret ⟨.tuple _, ret2 rfl rfl rfl, [], .nil, calcV_of (by subst ho; simp [calcF]; try rfl), rfl⟩
  have h3 : ¬ o = 3 := by simpa using h
  clear h
  refine Cd.seq ?_
  refine Cd.region ?_
  refine Ol.p eqi ?_
  refine Ol.p asb ?_
  refine Ol.nil ?_
  refine Cd.cond rfl (fun h => ?_) (fun h => ?_)
  · have ho : o = 4 := by simpa using h
    refine Cd.seq ?_
    refine Cd.region ?_
    refine Ol.p mvi ?_
    refine Ol.p mvi ?_
    refine Ol.p (arw (.inr (.inr rfl))) ?_
    refine Ol.p asi ?_
    refine Ol.p asb ?_
    refine Ol.nil ?_
    exact Cd.ret ⟨.tuple _, ret2 rfl rfl rfl, [], .nil, calcV_of (by subst ho; simp [calcF]; try rfl), rfl⟩
  have h4 : ¬ o = 4 := by simpa using h
  clear h
  refine Cd.seq ?_
  refine Cd.region ?_
  refine Ol.p eqi ?_
  refine Ol.p asb ?_
  refine Ol.nil ?_
  refine Cd.cond rfl (fun h => ?_) (fun h => ?_)
  · have ho : o = 6 := by simpa using h
    refine Cd.seq ?_
    refine Cd.region ?_
    refine Ol.p mvi ?_
    refine Ol.p mvi ?_
    refine Ol.p (bti (.inl rfl)) ?_
    refine Ol.p asi ?_
    refine Ol.p asb ?_
    refine Ol.nil ?_
    exact Cd.ret ⟨.tuple _, ret2 rfl rfl rfl, [], .nil, calcV_of (by subst ho; simp [calcF]; try rfl), rfl⟩
  have h6 : ¬ o = 6 := by simpa using h
  clear h
  refine Cd.seq ?_
  refine Cd.region ?_
  refine Ol.p eqi ?_
  refine Ol.p asb ?_
  refine Ol.nil ?_
  refine Cd.cond rfl (fun h => ?_) (fun h => ?_)
  · have ho : o = 7 := by simpa using h
    refine Cd.seq ?_
    refine Cd.region ?_
    refine Ol.p mvi ?_
    refine Ol.p mvi ?_
    refine Ol.p (bti (.inr (.inl rfl))) ?_
    refine Ol.p asi ?_
    refine Ol.p asb ?_
    refine Ol.nil ?_
    exact Cd.ret ⟨.tuple _, ret2 rfl rfl rfl, [], .nil, calcV_of (by subst ho; simp [calcF]; try rfl), rfl⟩
  have h7 : ¬ o = 7 := by simpa using h
  clear h
  refine Cd.seq ?_
  refine Cd.region ?_
  refine Ol.p eqi ?_
  refine Ol.p asb ?_
  refine Ol.nil ?_
  refine Cd.cond rfl (fun h => ?_) (fun h => ?_)
  · have ho : o = 8 := by simpa using h
    refine Cd.seq ?_
    refine Cd.region ?_
    refine Ol.p mvi ?_
    refine Ol.p mvi ?_
    refine Ol.p (bti (.inr (.inr (.inl rfl)))) ?_
    refine Ol.p asi ?_
    refine Ol.p asb ?_
    refine Ol.nil ?_
    exact Cd.ret ⟨.tuple _, ret2 rfl rfl rfl, [], .nil, calcV_of (by subst ho; simp [calcF]; try rfl), rfl⟩
  have h8 : ¬ o = 8 := by simpa using h
  clear h
  refine Cd.seq ?_
  refine Cd.region ?_
  refine Ol.p eqi ?_
  refine Ol.p asb ?_
  refine Ol.nil ?_
  refine Cd.cond rfl (fun h => ?_) (fun h => ?_)
  · have ho : o = 9 := by simpa using h
    refine Cd.seq ?_
    refine Cd.region ?_
    refine Ol.p mvi ?_
    refine Ol.p mvi ?_
    refine Ol.p lsi ?_
    refine Ol.s (cl en_run_truth (fun M w' hh => run_truth_ct)) ?_
    refine Ol.p asi ?_
    refine Ol.p asb ?_
    refine Ol.nil ?_
    exact Cd.ret ⟨.tuple _, ret2 rfl rfl rfl, [], .nil, calcV_of (by subst ho; simp [calcF]; try rfl), rfl⟩
  have h9 : ¬ o = 9 := by simpa using h
  clear h
  refine Cd.seq ?_
  refine Cd.region ?_
  refine Ol.p eqi ?_
  refine Ol.p asb ?_
  refine Ol.nil ?_
  refine Cd.cond rfl (fun h => ?_) (fun h => ?_)
  · have ho : o = 10 := by simpa using h
    refine Cd.seq ?_
    refine Cd.region ?_
    refine Ol.p mvi ?_
    refine Ol.p mvi ?_
    refine Ol.p eqi ?_
    refine Ol.s (cl en_run_truth (fun M w' hh => run_truth_ct)) ?_
    refine Ol.p asi ?_
    refine Ol.p asb ?_
    refine Ol.nil ?_
    exact Cd.ret ⟨.tuple _, ret2 rfl rfl rfl, [], .nil, calcV_of (by subst ho; simp [calcF]; try rfl), rfl⟩
  have h10 : ¬ o = 10 := by simpa using h
  clear h
  refine Cd.skip ?_
  refine Cd.seq ?_
  cases h5 : decide (o = 5) with
  | false =>
    have ho : ¬ o = 5 := by simpa using h5
    have hg : (!decide (o = 5)) = true := by rw [h5]; rfl
    refine Cd.seq ?_
    refine Cd.region ?_
    refine Ol.p mvi ?_
    refine Ol.p nei ?_
    refine Ol.p mvb ?_
    refine Ol.gn hg ?_
    refine Ol.gn hg ?_
    refine Ol.p (pkTb hg) ?_
    refine Ol.nil ?_
    refine Cd.cond rfl (fun h => ?_) (fun h => by cases h)
    refine Cd.seq ?_
    refine Cd.region ?_
    refine Ol.p asi ?_
    refine Ol.p asb ?_
    refine Ol.nil ?_
    exact Cd.ret ⟨.tuple _, ret2 rfl rfl rfl, [], .nil, calcV_of (by simp [calcF, h2, h3, h4, h6, h7, h8, h9, h10, ho]), rfl⟩
  | true =>
    have ho : o = 5 := by simpa using h5
    have hg : (!decide (o = 5)) = false := by rw [h5]; rfl
    refine Cd.seq ?_
    refine Cd.region ?_
    refine Ol.p mvi ?_
    refine Ol.p nei ?_
    refine Ol.p mvb ?_
    refine Ol.gp hg mvi ?_
    refine Ol.gp hg eqi ?_
    refine Ol.p (pkFb hg) ?_
    refine Ol.nil ?_
    refine Cd.cond rfl (fun h => ?_) (fun h => ?_)
    · have hb : b = 0 := by simpa using h
      refine Cd.seq ?_
      refine Cd.region ?_
      refine Ol.p asi ?_
      refine Ol.p asb ?_
      refine Ol.nil ?_
      exact Cd.ret ⟨.tuple _, ret2 rfl rfl rfl, [], .nil, calcV_of (by subst ho; simp [calcF, hb]), rfl⟩
    have hb : ¬ b = 0 := by simpa using h
    refine Cd.skip ?_
    refine Cd.seq ?_
    refine Cd.region ?_
    refine Ol.p mvi ?_
    refine Ol.p mvi ?_
    refine Ol.p quoi ?_
    refine Ol.p asi ?_
    refine Ol.p asb ?_
    refine Ol.nil ?_
    exact Cd.ret ⟨.tuple _, ret2 rfl rfl rfl, [], .nil, calcV_of (by subst ho; simp [calcF, hb]; rfl), rfl⟩
end
section
set_option maxHeartbeats 2000000 in
theorem ref08_Calc_ct {w : World} {o a b : Int} : Ct Tryz.prog 69 #[.int .i64 o, .int .i64 a, .int .i64 b] w (Is (calcV o a b)) := by
  refine Ct.mk Tryz.func69 rfl rfl ?_
  refine Cd.seq ?_
  refine Cd.region ?_
  refine Ol.p asi ?_
  refine Ol.p asb ?_
  refine Ol.nil ?_
  refine Cd.seq ?_
  refine Cd.seq ?_
  refine Cd.region ?_
  refine Ol.p mvi ?_
  refine Ol.nil ?_
  refine Cd.block ?_
  refine Cd.seq ?_
  refine Cd.region ?_
  refine Ol.p eqi ?_
  refine Ol.p asb ?_
  refine Ol.nil ?_
  refine Cd.cond rfl (fun h => ?_) (fun h => ?_)
  · have ho : o = 2 := by simpa using h
    refine Cd.seq ?_
    refine Cd.region ?_
    refine Ol.p mvi ?_
    refine Ol.p mvi ?_
    refine Ol.p (arw (.inl rfl)) ?_
    refine Ol.p asi ?_
    refine Ol.p asb ?_
    refine Ol.nil ?_
    exact Cd.ret ⟨.tuple _, ret2 rfl rfl rfl, [], .nil, calcV_of (by subst ho; simp [calcF]; try rfl), rfl⟩
  have h2 : ¬ o = 2 := by simpa using h
  clear h
  refine Cd.seq ?_
  refine Cd.region ?_
  refine Ol.p eqi ?_
  refine Ol.p asb ?_
  refine Ol.nil ?_
  refine Cd.cond rfl (fun h => ?_) (fun h => ?_)
  · have ho : o = 3 := by simpa using h
    refine Cd.seq ?_
    refine Cd.region ?_
    refine Ol.p mvi ?_
    refine Ol.p mvi ?_
    refine Ol.p (arw (.inr (.inl rfl))) ?_
    refine Ol.p asi ?_
    refine Ol.p asb ?_
    refine Ol.nil ?_
    exact Cd.ret ⟨.tuple _, ret2 rfl rfl rfl, [], .nil, calcV_of (by subst ho; simp [calcF]; try rfl), rfl⟩
  have h3 : ¬ o = 3 := by simpa using h
  clear h
  refine Cd.seq ?_
  refine Cd.region ?_
  refine Ol.p eqi ?_
  refine Ol.p asb ?_
  refine Ol.nil ?_
  refine Cd.cond rfl (fun h => ?_) (fun h => ?_)
  · have ho : o = 4 := by simpa using h
    refine Cd.seq ?_
    refine Cd.region ?_
    refine Ol.p mvi ?_
    refine Ol.p mvi ?_
    refine Ol.p (arw (.inr (.inr rfl))) ?_
    refine Ol.p asi ?_
    refine Ol.p asb ?_
    refine Ol.nil ?_
    exact Cd.ret ⟨.tuple _, ret2 rfl rfl rfl, [], .nil, calcV_of (by subst ho; simp [calcF]; try rfl), rfl⟩
  have h4 : ¬ o = 4 := by simpa using h
  clear h
  refine Cd.seq ?_
  refine Cd.region ?_
  refine Ol.p eqi ?_
  refine Ol.p asb ?_
  refine Ol.nil ?_
  refine Cd.cond rfl (fun h => ?_) (fun h => ?_)
  · have ho : o = 5 := by simpa using h
    refine Cd.seq ?_
    refine Cd.seq ?_
    refine Cd.region ?_
    refine Ol.p mvi ?_
    refine Ol.p eqi ?_
    refine Ol.nil ?_
    refine Cd.cond rfl (fun h2 => ?_) (fun h2 => ?_)
    · have hb : b = 0 := by simpa using h2
      refine Cd.seq ?_
      refine Cd.region ?_
      refine Ol.p asi ?_
      refine Ol.p asb ?_
      refine Ol.nil ?_
      exact Cd.ret ⟨.tuple _, ret2 rfl rfl rfl, [], .nil, calcV_of (by subst ho; simp [calcF, hb]), rfl⟩
    have hb : ¬ b = 0 := by simpa using h2
    refine Cd.skip ?_
    refine Cd.seq ?_
    refine Cd.seq ?_
    refine Cd.region ?_
    refine Ol.p mvi ?_
    refine Ol.p eqi ?_
    refine Ol.nil ?_
    refine Cd.cond rfl (fun h3 => ?_) (fun h3 => ?_)
    · have hm : b = -1 := by simpa using h3
      refine Cd.seq ?_
      refine Cd.region ?_
      refine Ol.p mvi ?_
      refine Ol.p (ngw (u := 0)) ?_
      refine Ol.p asi ?_
      refine Ol.p asb ?_
      refine Ol.nil ?_
      exact Cd.ret ⟨.tuple _, ret2 rfl rfl rfl, [], .nil, calcV_of (by subst ho hm; simp [calcF, wI, Int.tdiv_neg]), rfl⟩
    refine Cd.skip ?_
    refine Cd.seq ?_
    refine Cd.region ?_
    refine Ol.p mvi ?_
    refine Ol.p mvi ?_
    refine Ol.p quoi ?_
    refine Ol.p asi ?_
    refine Ol.p asb ?_
    refine Ol.nil ?_
    exact Cd.ret ⟨.tuple _, ret2 rfl rfl rfl, [], .nil, calcV_of (by subst ho; simp [calcF, hb]; rfl), rfl⟩
  have h5 : ¬ o = 5 := by simpa using h
  clear h
  refine Cd.seq ?_
  refine Cd.region ?_
  refine Ol.p eqi ?_
  refine Ol.p asb ?_
  refine Ol.nil ?_
  refine Cd.cond rfl (fun h => ?_) (fun h => ?_)
  · have ho : o = 6 := by simpa using h
    refine Cd.seq ?_
    refine Cd.region ?_
    refine Ol.p mvi ?_
    refine Ol.p mvi ?_
    refine Ol.p (bti (.inl rfl)) ?_
    refine Ol.p asi ?_
    refine Ol.p asb ?_
    refine Ol.nil ?_
    exact Cd.ret ⟨.tuple _, ret2 rfl rfl rfl, [], .nil, calcV_of (by subst ho; simp [calcF]; try rfl), rfl⟩
  have h6 : ¬ o = 6 := by simpa using h
  clear h
  refine Cd.seq ?_
  refine Cd.region ?_
  refine Ol.p eqi ?_
  refine Ol.p asb ?_
  refine Ol.nil ?_
  refine Cd.cond rfl (fun h => ?_) (fun h => ?_)
  · have ho : o = 7 := by simpa using h
    refine Cd.seq ?_
    refine Cd.region ?_
    refine Ol.p mvi ?_
    refine Ol.p mvi ?_
    refine Ol.p (bti (.inr (.inl rfl))) ?_
    refine Ol.p asi ?_
    refine Ol.p asb ?_
    refine Ol.nil ?_
    exact Cd.ret ⟨.tuple _, ret2 rfl rfl rfl, [], .nil, calcV_of (by subst ho; simp [calcF]; try rfl), rfl⟩
  have h7 : ¬ o = 7 := by simpa using h
  clear h
  refine Cd.seq ?_
  refine Cd.region ?_
  refine Ol.p eqi ?_
  refine Ol.p asb ?_
  refine Ol.nil ?_
  refine Cd.cond rfl (fun h => ?_) (fun h => ?_)
  · have ho : o = 8 := by simpa using h
    refine Cd.seq ?_
    refine Cd.region ?_
    refine Ol.p mvi ?_
    refine Ol.p mvi ?_
    refine Ol.p (bti (.inr (.inr (.inl rfl)))) ?_
    refine Ol.p asi ?_
    refine Ol.p asb ?_
    refine Ol.nil ?_
    exact Cd.ret ⟨.tuple _, ret2 rfl rfl rfl, [], .nil, calcV_of (by subst ho; simp [calcF]; try rfl), rfl⟩
  have h8 : ¬ o = 8 := by simpa using h
  clear h
  refine Cd.seq ?_
  refine Cd.region ?_
  refine Ol.p eqi ?_
  refine Ol.p asb ?_
  refine Ol.nil ?_
  refine Cd.cond rfl (fun h => ?_) (fun h => ?_)
  · have ho : o = 9 := by simpa using h
    refine Cd.seq ?_
    refine Cd.region ?_
    refine Ol.p mvi ?_
    refine Ol.p mvi ?_
    refine Ol.p lsi ?_
    refine Ol.s (cl en_ref08_bit (fun M w' hh => ref08_bit_ct)) ?_
    refine Ol.p asi ?_
    refine Ol.p asb ?_
    refine Ol.nil ?_
    exact Cd.ret ⟨.tuple _, ret2 rfl rfl rfl, [], .nil, calcV_of (by subst ho; simp [calcF]; try rfl), rfl⟩
  have h9 : ¬ o = 9 := by simpa using h
  clear h
  refine Cd.seq ?_
  refine Cd.region ?_
  refine Ol.p eqi ?_
  refine Ol.p asb ?_
  refine Ol.nil ?_
  refine Cd.cond rfl (fun h => ?_) (fun h => ?_)
  · have ho : o = 10 := by simpa using h
    refine Cd.seq ?_
    refine Cd.region ?_
    refine Ol.p mvi ?_
    refine Ol.p mvi ?_
    refine Ol.p eqi ?_
    refine Ol.s (cl en_ref08_bit (fun M w' hh => ref08_bit_ct)) ?_
    refine Ol.p asi ?_
    refine Ol.p asb ?_
    refine Ol.nil ?_
    exact Cd.ret ⟨.tuple _, ret2 rfl rfl rfl, [], .nil, calcV_of (by subst ho; simp [calcF]; try rfl), rfl⟩
  have h10 : ¬ o = 10 := by simpa using h
  clear h
  refine Cd.skip ?_
  refine Cd.seq ?_
  refine Cd.region ?_
  refine Ol.p asi ?_
  refine Ol.p asb ?_
  refine Ol.nil ?_
  exact Cd.ret ⟨.tuple _, ret2 rfl rfl rfl, [], .nil, calcV_of (by simp [calcF, h2, h3, h4, h5, h6, h7, h8, h9, h10]), rfl⟩
end
section
def trapV : Value := .iface 91 (.agg #[.int .i64 2, .int .i64 0])
theorem run_trap_ct {w : World} : Ct Tryz.prog 102 #[] w (Is trapV) := by
  refine Ct.mk Tryz.func102 rfl rfl ?_
  refine Cd.seq ?_
  refine Cd.region ?_
  refine Ol.p (as_ rfl) ?_
  refine Ol.nil ?_
  refine Cd.seq ?_
  refine Cd.region ?_
  refine Ol.p (bds (cs := #[.int .i64 2, .int .i64 0]) bs_run_done zr_run_done (hf := by kernel_rfl)) ?_
  refine Ol.p (mki co_run_done rfl) ?_
  refine Ol.p (as_ rfl) ?_
  refine Ol.nil ?_
  exact Cd.ret ⟨trapV, ret1 rfl rfl, [], .nil, rfl, rfl⟩
end
end Go.Proofs.YtjenaenakopicaaGreat

/- Functions told by what they hold, not where: plain laws. -/
namespace Go.Proofs.YtjenaenakopicaaGreat
set_option linter.unusedVariables false
open Go Go.RowKit

def RIns.bare (i : RIns) : RIns := { i with aA := none, aC := 0 }
def RBlk.bare (b : RBlk) : RBlk := { b with iA := none, iC := 0, ins := b.ins.map RIns.bare }
def RFun.bare (f : RFun) : RFun := { f with pA := none, pC := 0, bA := none, bC := 0, blocks := f.blocks.map RBlk.bare }
theorem exposed_bare : ∀ (l : List RIns) (t : Tm) (v : Int), exposed (l.map RIns.bare) t v = exposed l t v
  | [], _, _ => rfl
  | i :: l, t, v => by
    show ((readsL i.bare).contains v || (!decide (defI i.bare = v) && exposed (l.map RIns.bare) t v)) = _
    rw [exposed_bare l t v]; rfl
theorem terms_bare (f : RFun) : f.bare.terms = f.terms := by
  unfold RFun.terms RFun.bare
  rw [List.map_map]
  rfl
theorem longF_bare (f : RFun) : longF f.bare = longF f := by
  unfold longF RFun.bare
  simp only [List.length_map, List.any_map]
  congr 1
  apply congrArg
  funext b
  simp [Function.comp, RBlk.bare]
theorem wholeF_bare (f : RFun) : wholeF f.bare = wholeF f := by
  unfold wholeF RFun.bare
  simp only [List.all_map]
  congr 1
  apply congrArg
  funext b
  simp only [Function.comp, wholeB, RBlk.bare, List.all_map]
  rfl
theorem blk_bare {f : RFun} {b : Nat} {x : RBlk} (h : f.blocks[b]? = some x) : f.bare.blocks[b]? = some x.bare := by
  unfold RFun.bare
  rw [List.getElem?_map, h]; rfl
theorem blk_unbare {f : RFun} {b : Nat} {x : RBlk} (h : f.bare.blocks[b]? = some x) : ∃ y, f.blocks[b]? = some y ∧ x = y.bare := by
  unfold RFun.bare at h
  rw [List.getElem?_map] at h
  cases hb : f.blocks[b]? with
  | none => rw [hb] at h; cases h
  | some y => rw [hb] at h; exact ⟨y, rfl, (Option.some.inj h).symm⟩
theorem Bare_bare {f : RFun} {v b : Nat} : Bare f.bare v b ↔ Bare f v b := by
  constructor
  · intro h
    induction h with
    | zero hp => exact .zero hp
    | step _ ha hd ht ih =>
      obtain ⟨y, hy, rfl⟩ := blk_unbare ha
      exact .step ih hy (fun i hi => hd i.bare (List.mem_map_of_mem hi)) ht
  · intro h
    induction h with
    | zero hp => exact .zero hp
    | step _ ha hd ht ih =>
      refine .step ih (blk_bare ha) (fun i hi => ?_) ht
      obtain ⟨j, hj, rfl⟩ := List.mem_map.1 hi
      exact hd j hj
theorem valuedF_bare (f : RFun) : valuedF f.bare = valuedF f := by
  rw [Bool.eq_iff_iff, valuedF_iff, valuedF_iff]
  constructor
  · intro h b x v hx he hb
    exact h b x.bare v (blk_bare hx) (by show exposed (x.ins.map RIns.bare) x.term v = true; rw [exposed_bare]; exact he) (Bare_bare.2 hb)
  · intro h b x v hx he hb
    obtain ⟨y, hy, rfl⟩ := blk_unbare hx
    exact h b y v hy (by rw [← exposed_bare]; exact he) (Bare_bare.1 hb)
theorem rightF_bare (f : RFun) : rightF f.bare = rightF f := by
  unfold rightF
  rw [longF_bare, wholeF_bare, terms_bare, valuedF_bare]
  unfold RFun.bare
  simp
theorem rightF_same {f g : RFun} (h : g.bare = f.bare) : rightF g = rightF f := by rw [← rightF_bare, h, rightF_bare]
end Go.Proofs.YtjenaenakopicaaGreat

