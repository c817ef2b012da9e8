/- Part 4 of the proof of IrTellsC: the texts RefD, RefE, RefF, Perm, IrVars, Bare, Count, Pick, Law03, Ren, Own, Most, RefG, one behind the other. -/
import Derived.Test.YtcojedoejpcolaaIrTellsCM3
/- The document's answer of layer 03: a function's length, its shape, what is reached, walked. -/
namespace Go.Proofs.Ytcojedoejpcolaa
set_option linter.unusedVariables false
set_option linter.unusedSimpArgs false
open Go Go.RowKit
set_option maxRecDepth 100000

theorem lt_of {a b : Nat} (h : decide ((a : Int) < (b : Int)) = true) : a < b := by have := of_decide_eq_true h; omega
theorem ge_of {a b : Nat} (h : decide ((a : Int) < (b : Int)) = false) : b ≤ a := by have := of_decide_eq_false h; omega
theorem tm_slc {f : RFun} {b : Nat} {x : RBlk} (hx : f.blocks[b]? = some x) : ∀ (j : Nat) (u : Value), x.term.cells[j]? = some u → (f.blocks.flatMap RBlk.cells)[b * 5 + 1 + j]? = some u := fun j u hu => by
  rw [Nat.add_assoc]
  refine blk_cell hx ?_
  rw [Nat.add_comm]
  simpa [RBlk.cells] using hu
theorem ins_slc {f : RFun} {b : Nat} {x : RBlk} (hx : f.blocks[b]? = some x) : (f.blocks.flatMap RBlk.cells)[b * 5 + 0]? = some (.slice x.iA x.ins.length x.iC) := blk_cell hx rfl
section
theorem ref03_long_ct {w : World} {f : RFun} (hf : FunAt w w.heap.size f) (hfit : Fit f) : Ct Try.prog 83 #[f.val] w (Is (.bool (longF f))) := by
  have hbl := hfit.blen
  refine Ct.mk Try.func83 rfl rfl ?_
  refine Cd.seq ?_
  refine Cd.region ?_
  refine Ol.x bxg ?_
  rintro _ _ ⟨g1, rfl, rfl⟩
  refine Ol.p asb ?_
  refine Ol.nil ?_
  have e : longF f = ((decide ((f.blocks.length : Int) < 1) || (decide (200 < (f.blocks.length : Int)) || decide (8 < (f.params.length : Int)))) || f.blocks.any fun b => decide (64 < b.ins.length)) := by
    unfold longF
    rw [show decide ((f.blocks.length : Int) < 1) = decide (f.blocks.length = 0) by rw [decide_eq_decide]; omega, show decide (200 < (f.blocks.length : Int)) = decide (200 < f.blocks.length) by rw [decide_eq_decide]; omega, show decide (8 < (f.params.length : Int)) = decide (8 < f.params.length) by rw [decide_eq_decide]; omega, Bool.or_assoc (decide (f.blocks.length = 0))]
  refine Cd.seq ?_
  refine Cd.mid (fun σ' L' => Has σ' [(1, .pointer (some ⟨g1, 0, none⟩)), (19, .bool (decide ((f.blocks.length : Int) < 1) || (decide (200 < (f.blocks.length : Int)) || decide (8 < (f.params.length : Int)))))] ∧ [blk g1 (.cells f.cells.toArray 43)] = L') ?_ ?_
  · skip
    cases q0 : decide ((f.blocks.length : Int) < 1) with
    | false =>
      cases q1 : decide (200 < (f.blocks.length : Int)) with
      | false =>
        refine Cd.region ?_
        refine Ol.p (fdl fd_api_Func_1) ?_
        refine Ol.p (ld (v := .slice f.bA f.blocks.length f.bC) one_L_api_Block (Rd.blk (i := 0) rfl rfl)) ?_
        refine Ol.p (lens sl_L_api_Block) ?_
        refine Ol.p lsi ?_
        refine Ol.p mvb ?_
        refine Ol.gp q0 (fdl fd_api_Func_1) ?_
        refine Ol.gp q0 (ld (v := .slice f.bA f.blocks.length f.bC) one_L_api_Block (Rd.blk (i := 0) rfl rfl)) ?_
        refine Ol.gp q0 (lens sl_L_api_Block) ?_
        refine Ol.gp q0 gti ?_
        refine Ol.p (pkFb q0) ?_
        refine Ol.p mvb ?_
        refine Ol.gp q1 (fdl fd_api_Func_0) ?_
        refine Ol.gp q1 (ld (v := .slice f.pA f.params.length f.pC) one_L_int (Rd.blk (i := 0) rfl rfl)) ?_
        refine Ol.gp q1 (lens sl_L_int) ?_
        refine Ol.gp q1 gti ?_
        refine Ol.p (pkFb q1) ?_
        refine Ol.nil ?_
        exact ⟨⟨rfl, rfl, trivial⟩, rfl⟩
      | true =>
        refine Cd.region ?_
        refine Ol.p (fdl fd_api_Func_1) ?_
        refine Ol.p (ld (v := .slice f.bA f.blocks.length f.bC) one_L_api_Block (Rd.blk (i := 0) rfl rfl)) ?_
        refine Ol.p (lens sl_L_api_Block) ?_
        refine Ol.p lsi ?_
        refine Ol.p mvb ?_
        refine Ol.gp q0 (fdl fd_api_Func_1) ?_
        refine Ol.gp q0 (ld (v := .slice f.bA f.blocks.length f.bC) one_L_api_Block (Rd.blk (i := 0) rfl rfl)) ?_
        refine Ol.gp q0 (lens sl_L_api_Block) ?_
        refine Ol.gp q0 gti ?_
        refine Ol.p (pkFb q0) ?_
        refine Ol.p mvb ?_
        refine Ol.gn q1 ?_
        refine Ol.gn q1 ?_
        refine Ol.gn q1 ?_
        refine Ol.gn q1 ?_
        refine Ol.p (pkTb q1) ?_
        refine Ol.nil ?_
        exact ⟨⟨rfl, rfl, trivial⟩, rfl⟩
    | true =>
      refine Cd.region ?_
      refine Ol.p (fdl fd_api_Func_1) ?_
      refine Ol.p (ld (v := .slice f.bA f.blocks.length f.bC) one_L_api_Block (Rd.blk (i := 0) rfl rfl)) ?_
      refine Ol.p (lens sl_L_api_Block) ?_
      refine Ol.p lsi ?_
      refine Ol.p mvb ?_
      refine Ol.gn q0 ?_
      refine Ol.gn q0 ?_
      refine Ol.gn q0 ?_
      refine Ol.gn q0 ?_
      refine Ol.p (pkTb q0) ?_
      refine Ol.p mvb ?_
      refine Ol.gn rfl ?_
      refine Ol.gn rfl ?_
      refine Ol.gn rfl ?_
      refine Ol.gn rfl ?_
      refine Ol.p (pkTb rfl) ?_
      refine Ol.nil ?_
      exact ⟨⟨rfl, rfl, trivial⟩, rfl⟩
  rintro σ' _ ⟨hs', rfl⟩
  refine Cd.has hs' ?_
  clear hs'
  refine Cd.cond rfl (fun h => ?_) (fun h => ?_)   -- $19
  · refine Cd.seq ?_
    refine Cd.region ?_
    refine Ol.p asb ?_
    refine Ol.nil ?_
    exact Cd.ret ⟨.bool true, ret1 rfl rfl, [], Keep.nil, by rw [e, h]; rfl, rfl⟩
  rw [h, Bool.false_or] at e
  refine Cd.skip ?_
  refine Cd.seq ?_
  refine Cd.seq ?_
  refine Cd.region ?_
  refine Ol.p asi ?_
  refine Ol.nil ?_
  refine Cd.block ?_   -- 0
  refine Cd.loop (fun m σ L => ∃ k, m = f.blocks.length - k ∧ k ≤ f.blocks.length ∧ ((f.blocks.take k).any fun b => decide (64 < b.ins.length)) = false ∧ Has σ [(1, .pointer (some ⟨g1, 0, none⟩)), (3, .int .i64 k)] ∧ [blk g1 (.cells f.cells.toArray 43)] = L) (n := f.blocks.length) ⟨0, rfl, Nat.zero_le _, rfl, ⟨rfl, rfl, trivial⟩, rfl⟩ ?_
  rintro _ σ L ⟨k, rfl, hk, hno, hs, rfl⟩
  refine Cd.has hs ?_
  clear hs
  refine Cd.seq ?_
  refine Cd.seq ?_
  refine Cd.region ?_
  refine Ol.p mvi ?_
  refine Ol.p (fdl fd_api_Func_1) ?_
  refine Ol.p (ld (v := .slice f.bA f.blocks.length f.bC) one_L_api_Block (Rd.blk (i := 0) rfl rfl)) ?_
  refine Ol.p (lens sl_L_api_Block) ?_
  refine Ol.p lsi ?_
  refine Ol.nil ?_
  refine Cd.cond rfl (fun h => ?_) (fun h => ?_)   -- $24
  · have hlt := lt_of h
    obtain ⟨x, hx⟩ : ∃ x, f.blocks[k]? = some x := ⟨_, List.getElem?_eq_getElem hlt⟩
    refine Cd.skip ?_
    refine Cd.seq ?_
    refine Cd.block ?_   -- 1
    refine Cd.seq ?_
    refine Cd.region ?_
    refine Ol.p (fdl fd_api_Func_1) ?_
    refine Ol.p (ld (v := .slice f.bA f.blocks.length f.bC) one_L_api_Block (Rd.blk (i := 0) rfl rfl)) ?_
    refine Ol.p mvi ?_
    refine Ol.p (ixn (ix := k) sl_L_api_Block (Som.slc hf.blocks (by omega))) ?_
    refine Ol.p (fdp fd_api_Block_0) ?_
    refine Ol.p (ld (v := .slice x.iA x.ins.length x.iC) one_L_api_Ins (Rd.slc hf.blocks (ins_slc hx))) ?_
    refine Ol.p (lens sl_L_api_Ins) ?_
    refine Ol.p gti ?_
    refine Ol.nil ?_
    refine Cd.cond rfl (fun h2 => ?_) (fun h2 => ?_)   -- $34
    · have h3 : decide (64 < x.ins.length) = true := by
        have := of_decide_eq_true h2
        exact decide_eq_true (by omega)
      refine Cd.seq ?_
      refine Cd.region ?_
      refine Ol.p asb ?_
      refine Ol.nil ?_
      exact Cd.ret ⟨.bool true, ret1 rfl rfl, [], Keep.nil, by rw [e, List.any_eq_true.2 ⟨x, List.mem_of_getElem? hx, h3⟩], rfl⟩
    have h3 : decide (64 < x.ins.length) = false := by
      have := of_decide_eq_false h2
      exact decide_eq_false (by omega)
    refine Cd.skip ?_
    refine Cd.region ?_
    refine Ol.p mvi ?_
    refine Ol.p addi ?_
    refine Ol.p asi ?_
    refine Ol.nil ?_
    refine ⟨f.blocks.length - (k + 1), by omega, k + 1, rfl, by omega, ?_, ⟨rfl, rfl, trivial⟩, rfl⟩
    rw [take_snoc_ hx, List.any_append, hno]
    simp only [List.any_cons, List.any_nil, h3]
    rfl
  have hge := ge_of h
  rw [List.take_of_length_le hge] at hno
  refine Cd.exit (id := 0) ?_
  refine Cd.seq ?_
  refine Cd.region ?_
  refine Ol.p asb ?_
  refine Ol.nil ?_
  exact Cd.ret ⟨.bool false, ret1 rfl rfl, [], Keep.nil, by rw [e, hno], rfl⟩
end
section
set_option maxHeartbeats 1000000 in
theorem ref03_shaped_ct {w : World} {f : RFun} (hf : FunAt w w.heap.size f) (hfit : Fit f) : Ct Try.prog 84 #[f.val] w (Is (.bool (wholeF f))) := by
  have hbl := hfit.blen
  have hpl := hfit.plen
  have e : wholeF f = (f.params.all varB && (decide f.params.Nodup && f.blocks.all wholeB)) := by unfold wholeF; rw [Bool.and_assoc]
  have hgp : ∀ (j : Nat) (n : Int), f.params[j]? = some n → (ints f.params)[j * 1]? = some (.int .i64 n) := fun j n h => by simp [ints, h]
  refine Ct.mk Try.func84 rfl rfl ?_
  refine Cd.seq ?_
  refine Cd.region ?_
  refine Ol.x bxg ?_
  rintro _ _ ⟨g1, rfl, rfl⟩
  refine Ol.p asb ?_
  refine Ol.nil ?_
  refine Cd.mid (fun σ' L' => (f.params.all varB = true ∧ f.params.Nodup) ∧ Has σ' [(1, .pointer (some ⟨g1, 0, none⟩))] ∧ [blk g1 (.cells f.cells.toArray 43)] = L') ?_ ?_
  · refine Cd.seq ?_
    refine Cd.region ?_
    refine Ol.p asi ?_
    refine Ol.nil ?_
    refine Cd.block ?_   -- 0
    refine Cd.loop (fun m σ L => ∃ k, m = f.params.length - k ∧ k ≤ f.params.length ∧ (f.params.take k).all varB = true ∧ (f.params.take k).Nodup ∧ Has σ [(1, .pointer (some ⟨g1, 0, none⟩)), (3, .int .i64 k)] ∧ [blk g1 (.cells f.cells.toArray 43)] = L) (n := f.params.length) ⟨0, rfl, Nat.zero_le _, rfl, List.nodup_nil, ⟨rfl, rfl, trivial⟩, rfl⟩ ?_
    rintro _ σ L ⟨k, rfl, hk, hall, hnd, hs, rfl⟩
    refine Cd.has hs ?_
    clear hs
    refine Cd.seq ?_
    refine Cd.seq ?_
    refine Cd.region ?_
    refine Ol.p mvi ?_
    refine Ol.p (fdl fd_api_Func_0) ?_
    refine Ol.p (ld (v := .slice f.pA f.params.length f.pC) one_L_int (Rd.blk (i := 0) rfl rfl)) ?_
    refine Ol.p (lens sl_L_int) ?_
    refine Ol.p lsi ?_
    refine Ol.nil ?_
    refine Cd.cond rfl (fun h => ?_) (fun h => ?_)   -- $11
    · have hlt := lt_of h
      obtain ⟨n, hn⟩ : ∃ n, f.params[k]? = some n := ⟨_, List.getElem?_eq_getElem hlt⟩
      refine Cd.skip ?_
      refine Cd.seq ?_
      refine Cd.block ?_   -- 1
      refine Cd.seq ?_
      refine Cd.seq ?_
      refine Cd.region ?_
      refine Ol.p (fdl fd_api_Func_0) ?_
      refine Ol.p (ld (v := .slice f.pA f.params.length f.pC) one_L_int (Rd.blk (i := 0) rfl rfl)) ?_
      refine Ol.p mvi ?_
      refine Ol.p (ixn (ix := k) sl_L_int (Som.slc hf.params (by omega))) ?_
      refine Ol.p (ld (v := .int .i64 n) one_int (Rd.slc hf.params (hgp k n hn))) ?_
      refine Ol.s (cl en_ref03_Var (fun M w' hh => ref03_Var_ct)) ?_
      refine Ol.p noti ?_
      refine Ol.nil ?_
      refine Cd.cond rfl (fun h2 => ?_) (fun h2 => ?_)   -- $20
      · have hno : varB n = false := by simpa using h2
        have e2 : f.params.all varB = false := by
          rw [List.all_eq_false]
          exact ⟨n, List.mem_of_getElem? hn, by rw [hno]; exact fun h => by cases h⟩
        refine Cd.seq ?_
        refine Cd.region ?_
        refine Ol.p asb ?_
        refine Ol.nil ?_
        exact Cd.ret ⟨.bool false, ret1 rfl rfl, [], Keep.nil, by rw [e, e2]; rfl, rfl⟩
      have hyes : varB n = true := by simpa using h2
      refine Cd.skip ?_
      refine Cd.seq ?_
      refine Cd.region ?_
      refine Ol.p asi ?_
      refine Ol.nil ?_
      refine Cd.block ?_   -- 2
      refine Cd.loop (fun m σ L => ∃ j, m = k - j ∧ j ≤ k ∧ n ∉ f.params.take j ∧ Has σ [(1, .pointer (some ⟨g1, 0, none⟩)), (3, .int .i64 k), (4, .int .i64 j)] ∧ [blk g1 (.cells f.cells.toArray 43)] = L) (n := k) ⟨0, rfl, Nat.zero_le _, by simp, ⟨rfl, rfl, rfl, trivial⟩, rfl⟩ ?_
      rintro _ σ L ⟨j, rfl, hj, hni, hs, rfl⟩
      refine Cd.has hs ?_
      clear hs
      refine Cd.seq ?_
      refine Cd.seq ?_
      refine Cd.region ?_
      refine Ol.p mvi ?_
      refine Ol.p mvi ?_
      refine Ol.p lsi ?_
      refine Ol.nil ?_
      refine Cd.cond rfl (fun h3 => ?_) (fun h3 => ?_)   -- $23
      · have hlt3 := lt_of h3
        obtain ⟨n2, hn2⟩ : ∃ n2, f.params[j]? = some n2 := ⟨_, List.getElem?_eq_getElem (by omega)⟩
        refine Cd.skip ?_
        refine Cd.seq ?_
        refine Cd.block ?_   -- 3
        refine Cd.seq ?_
        refine Cd.draw mixed 11 (fun _ => none) (fun _ => []) (by kernel_rfl) (fun _ _ h => by cases h) (fun u hu => ?_)
        refine Wk.p (fdl fd_api_Func_0) ?_
        refine Wk.p (ld (v := .slice f.pA f.params.length f.pC) one_L_int (Rd.blk (i := 0) rfl rfl)) ?_
        refine Wk.p mvi ?_
        refine Wk.p (ixn (ix := j) sl_L_int (Som.slc hf.params (by omega))) ?_
        refine Wk.p (ld (v := .int .i64 n2) one_int (Rd.slc hf.params (hgp j n2 hn2))) ?_
        refine Wk.p (fdl fd_api_Func_0) ?_
        refine Wk.p (ld (v := .slice f.pA f.params.length f.pC) one_L_int (Rd.blk (i := 0) rfl rfl)) ?_
        refine Wk.p mvi ?_
        refine Wk.p (ixn (ix := k) sl_L_int (Som.slc hf.params (by omega))) ?_
        refine Wk.p (ld (v := .int .i64 n) one_int (Rd.slc hf.params (hgp k n hn))) ?_
        refine Wk.p eqi ?_
        refine Wk.nil ?_
        refine Ol.nil ?_
        refine Cd.cond rfl (fun h4 => ?_) (fun h4 => ?_)   -- $36
        · have h4 : n2 = n := of_decide_eq_true h4
          have e2 : decide f.params.Nodup = false := by
            refine decide_eq_false fun hd => ?_
            obtain ⟨hl1, he1⟩ := List.getElem?_eq_some_iff.1 hn2
            obtain ⟨hl2, he2⟩ := List.getElem?_eq_some_iff.1 hn
            exact List.pairwise_iff_getElem.1 hd j k hl1 hl2 hlt3 (by rw [he1, he2, h4])
          refine Cd.seq ?_
          refine Cd.region ?_
          refine Ol.p asb ?_
          refine Ol.nil ?_
          exact Cd.ret ⟨.bool false, ret1 rfl rfl, [], Keep.nil, by rw [e, e2]; simp, rfl⟩
        have h4 : ¬ n2 = n := of_decide_eq_false h4
        refine Cd.skip ?_
        refine Cd.region ?_
        refine Ol.p mvi ?_
        refine Ol.p addi ?_
        refine Ol.p asi ?_
        refine Ol.nil ?_
        refine ⟨k - (j + 1), by omega, j + 1, rfl, by omega, ?_, ⟨rfl, rfl, rfl, trivial⟩, rfl⟩
        rw [take_snoc_ hn2]
        intro hm
        rcases List.mem_append.1 hm with hm | hm
        · exact hni hm
        · exact h4 (List.mem_singleton.1 hm).symm
      have hge3 := ge_of h3
      have hjk : j = k := by omega
      rw [hjk] at hni
      refine Cd.exit (id := 2) ?_
      refine Cd.region ?_
      refine Ol.p mvi ?_
      refine Ol.p addi ?_
      refine Ol.p asi ?_
      refine Ol.nil ?_
      refine ⟨f.params.length - (k + 1), by omega, k + 1, rfl, by omega, ?_, ?_, ⟨rfl, rfl, trivial⟩, rfl⟩
      · rw [take_snoc_ hn, List.all_append, hall]
        simp [hyes]
      · rw [take_snoc_ hn]
        exact List.nodup_append.2 ⟨hnd, List.nodup_cons.2 ⟨by simp, List.nodup_nil⟩, fun a ha b hb hab => by
          rw [List.mem_singleton.1 hb] at hab
          exact hni (hab ▸ ha)⟩
    have hge := ge_of h
    rw [List.take_of_length_le hge] at hall hnd
    refine Cd.exit (id := 0) ?_
    exact ⟨⟨hall, hnd⟩, ⟨rfl, trivial⟩, rfl⟩
  rintro σ' _ ⟨⟨hall, hnd⟩, hs', rfl⟩
  refine Cd.has hs' ?_
  clear hs'
  rw [hall, decide_eq_true hnd, Bool.true_and, Bool.true_and] at e
  refine Cd.seq ?_
  refine Cd.seq ?_
  refine Cd.region ?_
  refine Ol.p asi ?_
  refine Ol.nil ?_
  refine Cd.block ?_   -- 4
  refine Cd.loop (fun m σ L => ∃ k, m = f.blocks.length - k ∧ k ≤ f.blocks.length ∧ (f.blocks.take k).all wholeB = true ∧ Has σ [(1, .pointer (some ⟨g1, 0, none⟩)), (5, .int .i64 k)] ∧ [blk g1 (.cells f.cells.toArray 43)] = L) (n := f.blocks.length) ⟨0, rfl, Nat.zero_le _, rfl, ⟨rfl, rfl, trivial⟩, rfl⟩ ?_
  rintro _ σ L ⟨k, rfl, hk, hbs, hs, rfl⟩
  refine Cd.has hs ?_
  clear hs
  refine Cd.seq ?_
  refine Cd.seq ?_
  refine Cd.region ?_
  refine Ol.p mvi ?_
  refine Ol.p (fdl fd_api_Func_1) ?_
  refine Ol.p (ld (v := .slice f.bA f.blocks.length f.bC) one_L_api_Block (Rd.blk (i := 0) rfl rfl)) ?_
  refine Ol.p (lens sl_L_api_Block) ?_
  refine Ol.p lsi ?_
  refine Ol.nil ?_
  refine Cd.cond rfl (fun h => ?_) (fun h => ?_)   -- $41
  · have hlt := lt_of h
    obtain ⟨x, hx⟩ : ∃ x, f.blocks[k]? = some x := ⟨_, List.getElem?_eq_getElem hlt⟩
    have hxm := List.mem_of_getElem? hx
    have hxl := hfit.ilen x hxm
    have hbad : wholeB x = false → wholeF f = false := fun hw => by
      rw [e, List.all_eq_false]
      exact ⟨x, hxm, by rw [hw]; exact fun h => by cases h⟩
    refine Cd.skip ?_
    refine Cd.seq ?_
    refine Cd.block ?_   -- 5
    refine Cd.mid (fun σ' L' => x.ins.all isIns = true ∧ Has σ' [(1, .pointer (some ⟨g1, 0, none⟩)), (5, .int .i64 k)] ∧ [blk g1 (.cells f.cells.toArray 43)] = L') ?_ ?_
    · refine Cd.seq ?_
      refine Cd.region ?_
      refine Ol.p asi ?_
      refine Ol.nil ?_
      refine Cd.block ?_   -- 6
      refine Cd.loop (fun m σ L => ∃ j, m = x.ins.length - j ∧ j ≤ x.ins.length ∧ (x.ins.take j).all isIns = true ∧ Has σ [(1, .pointer (some ⟨g1, 0, none⟩)), (5, .int .i64 k), (6, .int .i64 j)] ∧ [blk g1 (.cells f.cells.toArray 43)] = L) (n := x.ins.length) ⟨0, rfl, Nat.zero_le _, rfl, ⟨rfl, rfl, rfl, trivial⟩, rfl⟩ ?_
      rintro _ σ L ⟨j, rfl, hj, his, hs, rfl⟩
      refine Cd.has hs ?_
      clear hs
      refine Cd.seq ?_
      refine Cd.seq ?_
      refine Cd.region ?_
      refine Ol.p mvi ?_
      refine Ol.p (fdl fd_api_Func_1) ?_
      refine Ol.p (ld (v := .slice f.bA f.blocks.length f.bC) one_L_api_Block (Rd.blk (i := 0) rfl rfl)) ?_
      refine Ol.p mvi ?_
      refine Ol.p (ixn (ix := k) sl_L_api_Block (Som.slc hf.blocks (by omega))) ?_
      refine Ol.p (fdp fd_api_Block_0) ?_
      refine Ol.p (ld (v := .slice x.iA x.ins.length x.iC) one_L_api_Ins (Rd.slc hf.blocks (ins_slc hx))) ?_
      refine Ol.p (lens sl_L_api_Ins) ?_
      refine Ol.p lsi ?_
      refine Ol.nil ?_
      refine Cd.cond rfl (fun h2 => ?_) (fun h2 => ?_)   -- $52
      · have hlt2 := lt_of h2
        obtain ⟨i, hi⟩ : ∃ i, x.ins[j]? = some i := ⟨_, List.getElem?_eq_getElem hlt2⟩
        have him := List.mem_of_getElem? hi
        refine Cd.skip ?_
        refine Cd.seq ?_
        refine Cd.block ?_   -- 7
        refine Cd.seq ?_
        refine Cd.region ?_
        refine Ol.p (fdl fd_api_Func_1) ?_
        refine Ol.p (ld (v := .slice f.bA f.blocks.length f.bC) one_L_api_Block (Rd.blk (i := 0) rfl rfl)) ?_
        refine Ol.p mvi ?_
        refine Ol.p (ixn (ix := k) sl_L_api_Block (Som.slc hf.blocks (by omega))) ?_
        refine Ol.p (fdp fd_api_Block_0) ?_
        refine Ol.p (ld (v := .slice x.iA x.ins.length x.iC) one_L_api_Ins (Rd.slc hf.blocks (ins_slc hx))) ?_
        refine Ol.p mvi ?_
        refine Ol.p (ixn (ix := j) sl_L_api_Ins (Som.slc (hf.ins x hxm) (by omega))) ?_
        refine Ol.p (lds (es := i.cells) ag_api_Ins (hf.ins x hxm) i.len (fun q u hu => ins_cell hi hu)) ?_
        refine Ol.s (cl (v := .bool (isIns i)) en_ref03_IsIns (fun M w' hh => ref03_IsIns_ct ((hf.args x hxm i him).now hh) (by have := hfit.alen x hxm i him; omega))) ?_
        refine Ol.p noti ?_
        refine Ol.nil ?_
        refine Cd.cond rfl (fun h3 => ?_) (fun h3 => ?_)   -- $65
        · have hno : isIns i = false := by simpa using h3
          have e2 : wholeB x = false := by
            unfold wholeB
            rw [List.all_eq_false.2 ⟨i, him, by rw [hno]; exact fun h => by cases h⟩, Bool.and_false]
          refine Cd.seq ?_
          refine Cd.region ?_
          refine Ol.p asb ?_
          refine Ol.nil ?_
          exact Cd.ret ⟨.bool false, ret1 rfl rfl, [], Keep.nil, by rw [hbad e2], rfl⟩
        have hyes : isIns i = true := by simpa using h3
        refine Cd.skip ?_
        refine Cd.region ?_
        refine Ol.p mvi ?_
        refine Ol.p addi ?_
        refine Ol.p asi ?_
        refine Ol.nil ?_
        refine ⟨x.ins.length - (j + 1), by omega, j + 1, rfl, by omega, ?_, ⟨rfl, rfl, rfl, trivial⟩, rfl⟩
        rw [take_snoc_ hi, List.all_append, his]
        simp [hyes]
      have hge2 := ge_of h2
      rw [List.take_of_length_le hge2] at his
      refine Cd.exit (id := 6) ?_
      exact ⟨his, ⟨rfl, rfl, trivial⟩, rfl⟩
    rintro σ' _ ⟨his, hs', rfl⟩
    refine Cd.has hs' ?_
    clear hs'
    refine Cd.seq ?_
    refine Cd.region ?_
    refine Ol.p (fdl fd_api_Func_1) ?_
    refine Ol.p (ld (v := .slice f.bA f.blocks.length f.bC) one_L_api_Block (Rd.blk (i := 0) rfl rfl)) ?_
    refine Ol.p mvi ?_
    refine Ol.p (ixn (ix := k) sl_L_api_Block (Som.slc hf.blocks (by omega))) ?_
    refine Ol.p (fdp fd_api_Block_1) ?_
    refine Ol.p (lds (es := x.term.cells) ag_api_Term hf.blocks rfl (tm_slc hx)) ?_
    refine Ol.s (cl (v := .bool (isTerm x.term)) en_ref03_IsTerm (fun M w' hh => ref03_IsTerm_ct (t := x.term))) ?_
    refine Ol.p noti ?_
    refine Ol.nil ?_
    refine Cd.cond rfl (fun h2 => ?_) (fun h2 => ?_)   -- $73
    · have hno : isTerm x.term = false := by simpa using h2
      have e2 : wholeB x = false := by unfold wholeB; rw [hno]; rfl
      refine Cd.seq ?_
      refine Cd.region ?_
      refine Ol.p asb ?_
      refine Ol.nil ?_
      exact Cd.ret ⟨.bool false, ret1 rfl rfl, [], Keep.nil, by rw [hbad e2], rfl⟩
    have hyes : isTerm x.term = true := by simpa using h2
    refine Cd.skip ?_
    refine Cd.region ?_
    refine Ol.p mvi ?_
    refine Ol.p addi ?_
    refine Ol.p asi ?_
    refine Ol.nil ?_
    refine ⟨f.blocks.length - (k + 1), by omega, k + 1, rfl, by omega, ?_, ⟨rfl, rfl, trivial⟩, rfl⟩
    rw [take_snoc_ hx, List.all_append, hbs]
    simp [wholeB, hyes, his]
  have hge := ge_of h
  rw [List.take_of_length_le hge] at hbs
  refine Cd.exit (id := 4) ?_
  refine Cd.seq ?_
  refine Cd.region ?_
  refine Ol.p asb ?_
  refine Ol.nil ?_
  exact Cd.ret ⟨.bool true, ret1 rfl rfl, [], Keep.nil, by rw [e, hbs], rfl⟩
end
end Go.Proofs.Ytcojedoejpcolaa

/- The document's answer of layer 03: what is reached, walked. -/
namespace Go.Proofs.Ytcojedoejpcolaa
set_option linter.unusedVariables false
set_option linter.unusedSimpArgs false
open Go Go.RowKit
set_option maxRecDepth 100000

theorem boolsL_put {n x : Nat} {S : Nat → Bool} {c : Bool} : (boolsL n S).set x (.bool c) = boolsL n fun i => if i = x then c else S i := by
  apply List.ext_getElem?
  intro i
  rw [List.getElem?_set]
  unfold boolsL
  by_cases h : x = i
  · subst h
    by_cases hl : x < n
    · simp [hl]
    · simp [hl]
  · have h' : ¬ i = x := fun e => h e.symm
    rw [if_neg h, List.getElem?_map, List.getElem?_map]
    by_cases hl : i < n
    · rw [List.getElem?_range hl]
      simp [h']
    · rw [List.getElem?_eq_none (by simp; omega)]
      rfl
theorem boolsL_same {n : Nat} {S T : Nat → Bool} (h : ∀ i, i < n → S i = T i) : boolsL n S = boolsL n T := by
  unfold boolsL
  apply List.map_congr_left
  intro i hi
  rw [h i (by simpa using hi)]
theorem toL_edge {f : RFun} {b j : Nat} {x : RBlk} {n : Int} (hx : f.blocks[b]? = some x) (hn : (toL x.term)[j]? = some n) : (edges f.terms)[(edgesTo f.terms b).length + j]? = some ⟨(b : Int), (j : Int), n⟩ := by
  have ht : f.terms[b]? = some x.term := by unfold RFun.terms; rw [List.getElem?_map, hx]; rfl
  exact edges_get ht hn
theorem edgesTo_next {f : RFun} {b : Nat} {x : RBlk} (hx : f.blocks[b]? = some x) : (edgesTo f.terms (b + 1)).length = (edgesTo f.terms b).length + (toL x.term).length := by
  have ht : f.terms[b]? = some x.term := by unfold RFun.terms; rw [List.getElem?_map, hx]; rfl
  rw [edgesTo_succ ht, List.length_append, edgesB_len]
section
/-- What the document's rounds reach; or an edge goes where it may not. -/
def ReachR (f : RFun) : Value → List Res → Prop := fun v R =>
  (okEs f.terms = false ∧ v = .tuple #[.slice none 0 0, .bool false] ∧ R = []) ∨
  (okEs f.terms = true ∧ ∃ A c, v = .tuple #[.slice A f.blocks.length c, .bool true] ∧ R = [row (.slice A f.blocks.length c) 4 1 f.blocks.length (boolsL f.blocks.length (iterF (passA (fun _ => true) f.terms) f.blocks.length oneB))])
set_option maxHeartbeats 4000000 in
theorem ref03_reached_ct {w : World} {f : RFun} (hf : FunAt w w.heap.size f) (hfit : Fit f) (h0 : 0 < f.blocks.length) (h200 : f.blocks.length ≤ 200) : Ct Try.prog 85 #[f.val] w (ReachR f) := by
  have htl : f.terms.length = f.blocks.length := by simp [RFun.terms]
  have hbad : ∀ {b j : Nat} {x : RBlk} {n : Int}, f.blocks[b]? = some x → (toL x.term)[j]? = some n → (n < 1 ∨ (f.blocks.length : Int) ≤ n) → okEs f.terms = false := fun {b j x n} hx hn hb => by
    cases hok : okEs f.terms with
    | false => rfl
    | true =>
      have ht : f.terms[b]? = some x.term := by unfold RFun.terms; rw [List.getElem?_map, hx]; rfl
      have := okEs_at hok (a := b) (n := n) (by rw [toAt_some ht]; exact List.mem_of_getElem? hn)
      omega
  refine Ct.mk Try.func85 rfl rfl ?_
  refine Cd.seq ?_
  refine Cd.region ?_
  refine Ol.x bxg ?_
  rintro _ _ ⟨g1, rfl, rfl⟩
  refine Ol.p ass ?_
  refine Ol.p asb ?_
  refine Ol.nil ?_
  refine Cd.seq ?_
  refine Cd.region ?_
  refine Ol.p (fdl fd_api_Func_1) ?_
  refine Ol.p (ld (v := .slice f.bA f.blocks.length f.bC) one_L_api_Block (Rd.blk (i := 0) rfl rfl)) ?_
  refine Ol.p (lens sl_L_api_Block) ?_
  refine Ol.x (mks (n := f.blocks.length) (c := f.blocks.length) sl_L_bool zr_bool) ?_
  rintro _ _ ⟨gs, rfl, rfl⟩
  refine Ol.p ass ?_
  refine Ol.nil ?_
  rw [show (madeCells (Value.bool false).cells (f.blocks.length * 1)).toList.take (f.blocks.length * 1) = boolsL f.blocks.length fun _ => false from made_bools _]
  refine Cd.seq ?_
  refine Cd.region ?_
  refine Ol.p mvs ?_
  refine Ol.p (ixn1 (ix := 0) sl_L_bool (Som.row (i := 0) rfl (by omega))) ?_
  refine Ol.s (str (i := 0) (k := 0) (v := .bool true) sz_bool rfl rfl rfl (by rw [boolsL_len]; exact h0) rfl) ?_
  refine Ol.nil ?_
  rw [show (boolsL f.blocks.length fun _ => false).set 0 (.bool true) = boolsL f.blocks.length oneB from by rw [boolsL_put]; exact boolsL_same fun i _ => by unfold oneB; by_cases h : i = 0 <;> simp [h]]
  refine Cd.seq ?_
  refine Cd.seq ?_
  refine Cd.region ?_
  refine Ol.p asi ?_
  refine Ol.nil ?_
  refine Cd.block ?_   -- 0
  refine Cd.loop (fun m σ L => ∃ r, m = f.blocks.length - r ∧ r ≤ f.blocks.length ∧ (r = 0 ∨ okEs f.terms = true) ∧ Has σ [(1, .pointer (some ⟨g1, 0, none⟩)), (4, .slice (some ⟨gs, 0, none⟩) f.blocks.length f.blocks.length), (5, .int .i64 r)] ∧ [row (.slice (some ⟨gs, 0, none⟩) f.blocks.length f.blocks.length) 4 1 f.blocks.length (boolsL f.blocks.length (iterF (passA (fun _ => true) f.terms) r oneB)), blk g1 (.cells f.cells.toArray 43)] = L) (n := f.blocks.length) ⟨0, rfl, Nat.zero_le _, .inl rfl, ⟨rfl, rfl, rfl, trivial⟩, rfl⟩ ?_
  rintro _ σ L ⟨r, rfl, hr, hrok, hs, rfl⟩
  refine Cd.has hs ?_
  clear hs
  obtain ⟨S, hS⟩ : ∃ S, S = iterF (passA (fun _ => true) f.terms) r oneB := ⟨_, rfl⟩
  rw [← hS]
  refine Cd.seq ?_
  refine Cd.seq ?_
  refine Cd.region ?_
  refine Ol.p mvi ?_
  refine Ol.p (fdl fd_api_Func_1) ?_
  refine Ol.p (ld (v := .slice f.bA f.blocks.length f.bC) one_L_api_Block (Rd.blk (i := 1) rfl rfl)) ?_
  refine Ol.p (lens sl_L_api_Block) ?_
  refine Ol.p lsi ?_
  refine Ol.nil ?_
  refine Cd.cond rfl (fun h => ?_) (fun h => ?_)   -- $19
  · have hlt := lt_of h
    refine Cd.skip ?_
    refine Cd.seq ?_
    refine Cd.block ?_   -- 1
    refine Cd.seq ?_
    refine Cd.region ?_
    refine Ol.p asi ?_
    refine Ol.nil ?_
    refine Cd.block ?_   -- 2
    refine Cd.loop (fun m σ L => ∃ b, m = f.blocks.length - b ∧ b ≤ f.blocks.length ∧ ((f.terms.take b).all fun t => (toL t).all fun n => decide (1 ≤ n) && decide (n < (f.terms.length : Int))) = true ∧ Has σ [(1, .pointer (some ⟨g1, 0, none⟩)), (4, .slice (some ⟨gs, 0, none⟩) f.blocks.length f.blocks.length), (5, .int .i64 r), (6, .int .i64 b)] ∧ [row (.slice (some ⟨gs, 0, none⟩) f.blocks.length f.blocks.length) 4 1 f.blocks.length (boolsL f.blocks.length (passM (fun _ => true) f.terms (edgesTo f.terms b).length S)), blk g1 (.cells f.cells.toArray 43)] = L) (n := f.blocks.length) ⟨0, rfl, Nat.zero_le _, rfl, ⟨rfl, rfl, rfl, rfl, trivial⟩, rfl⟩ ?_
    rintro _ σ L ⟨b, rfl, hb, hall, hs, rfl⟩
    refine Cd.has hs ?_
    clear hs
    refine Cd.seq ?_
    refine Cd.seq ?_
    refine Cd.region ?_
    refine Ol.p mvi ?_
    refine Ol.p (fdl fd_api_Func_1) ?_
    refine Ol.p (ld (v := .slice f.bA f.blocks.length f.bC) one_L_api_Block (Rd.blk (i := 1) rfl rfl)) ?_
    refine Ol.p (lens sl_L_api_Block) ?_
    refine Ol.p lsi ?_
    refine Ol.nil ?_
    refine Cd.cond rfl (fun h2 => ?_) (fun h2 => ?_)   -- $26
    · have hlt2 := lt_of h2
      obtain ⟨x, hx⟩ : ∃ x, f.blocks[b]? = some x := ⟨_, List.getElem?_eq_getElem hlt2⟩
      have ht : f.terms[b]? = some x.term := by unfold RFun.terms; rw [List.getElem?_map, hx]; rfl
      obtain ⟨to, hto⟩ : ∃ to, to = toL x.term := ⟨_, rfl⟩
      have hto2 : to.length ≤ 2 := by rw [hto]; exact toL_len _
      refine Cd.skip ?_
      refine Cd.seq ?_
      refine Cd.block ?_   -- 3
      refine Cd.seq ?_
      refine Cd.region ?_
      refine Ol.p (fdl fd_api_Func_1) ?_
      refine Ol.p (ld (v := .slice f.bA f.blocks.length f.bC) one_L_api_Block (Rd.blk (i := 1) rfl rfl)) ?_
      refine Ol.p mvi ?_
      refine Ol.p (ixn (ix := b) sl_L_api_Block (Som.slc hf.blocks (by omega))) ?_
      refine Ol.p (fdp fd_api_Block_1) ?_
      refine Ol.p (lds (es := x.term.cells) ag_api_Term hf.blocks rfl (tm_slc hx)) ?_
      refine Ol.x (sp_call (vs := [x.term.val]) (R := NewL 3 1 to.length (ints to)) en_ref03_To (fun M w' hh => hto ▸ ref03_To_ct (t := x.term))) ?_
      rintro _ _ ⟨_, rfl, A35, c35, rfl, rfl⟩
      refine Ol.p ass ?_
      refine Ol.nil ?_
      refine Cd.seq ?_
      refine Cd.region ?_
      refine Ol.p asi ?_
      refine Ol.nil ?_
      refine Cd.block ?_   -- 4
      refine Cd.loop (fun m σ L => ∃ j, m = to.length - j ∧ j ≤ to.length ∧ ((to.take j).all fun n => decide (1 ≤ n) && decide (n < (f.terms.length : Int))) = true ∧ Has σ [(1, .pointer (some ⟨g1, 0, none⟩)), (4, .slice (some ⟨gs, 0, none⟩) f.blocks.length f.blocks.length), (5, .int .i64 r), (6, .int .i64 b), (7, .slice A35 to.length c35), (8, .int .i64 j)] ∧ [row (.slice A35 to.length c35) 3 1 to.length (ints to), row (.slice (some ⟨gs, 0, none⟩) f.blocks.length f.blocks.length) 4 1 f.blocks.length (boolsL f.blocks.length (passM (fun _ => true) f.terms ((edgesTo f.terms b).length + j) S)), blk g1 (.cells f.cells.toArray 43)] = L) (n := to.length) ⟨0, rfl, Nat.zero_le _, rfl, ⟨rfl, rfl, rfl, rfl, rfl, rfl, trivial⟩, rfl⟩ ?_
      rintro _ σ L ⟨j, rfl, hj, hto3, hs, rfl⟩
      refine Cd.has hs ?_
      clear hs
      refine Cd.seq ?_
      refine Cd.seq ?_
      refine Cd.region ?_
      refine Ol.p mvi ?_
      refine Ol.p mvs ?_
      refine Ol.p (lens sl_L_int) ?_
      refine Ol.p lsi ?_
      refine Ol.nil ?_
      refine Cd.cond rfl (fun h3 => ?_) (fun h3 => ?_)   -- $39
      · have hlt3 := lt_of h3
        obtain ⟨n, hn⟩ : ∃ n, to[j]? = some n := ⟨_, List.getElem?_eq_getElem hlt3⟩
        have hnv : (ints to)[j * 1]? = some (.int .i64 n) := by simp [ints, hn]
        have hed := toL_edge hx (hto ▸ hn)
        refine Cd.skip ?_
        refine Cd.seq ?_
        refine Cd.block ?_   -- 5
        refine Cd.seq ?_
        obtain ⟨T, hT⟩ : ∃ T, T = passM (fun _ => true) f.terms ((edgesTo f.terms b).length + j) S := ⟨_, rfl⟩
        rw [← hT]
        obtain ⟨L0, hL0⟩ : ∃ L0, L0 = [row (.slice A35 to.length c35) 3 1 to.length (ints to), row (.slice (some ⟨gs, 0, none⟩) f.blocks.length f.blocks.length) 4 1 f.blocks.length (boolsL f.blocks.length T), blk g1 (.cells f.cells.toArray 43)] := ⟨_, rfl⟩
        refine Cd.mid (fun σ' L' => Has σ' [(1, .pointer (some ⟨g1, 0, none⟩)), (4, .slice (some ⟨gs, 0, none⟩) f.blocks.length f.blocks.length), (5, .int .i64 r), (6, .int .i64 b), (7, .slice A35 to.length c35), (8, .int .i64 j), (56, .bool (decide (n < 1) || decide ((f.blocks.length : Int) ≤ n)))] ∧ L0 = L') ?_ ?_
        · rw [← hL0]
          subst hL0
          cases q0 : decide (n < 1) with
          | true =>
            refine Cd.draw mixed 15 (fun _ => none) (fun _ => []) (by kernel_rfl) (fun _ _ h => by cases h) (fun u hu => ?_)
            refine Wk.p mvs ?_
            refine Wk.p mvi ?_
            refine Wk.p (ixn (ix := j) sl_L_int (Som.row (i := 0) rfl (by omega))) ?_
            refine Wk.p (ld (v := .int .i64 n) one_int (Rd.row (i := 0) rfl hnv)) ?_
            refine Wk.p lsi ?_
            refine Wk.p mvb ?_
            refine Wk.gn q0 ?_
            refine Wk.gn q0 ?_
            refine Wk.gn q0 ?_
            refine Wk.gn q0 ?_
            refine Wk.gn q0 ?_
            refine Wk.gn q0 ?_
            refine Wk.gn q0 ?_
            refine Wk.gn q0 ?_
            refine Wk.p (pkTb q0) ?_
            refine Wk.nil ?_
            refine Ol.nil ?_
            exact ⟨⟨rfl, rfl, rfl, rfl, rfl, rfl, rfl, trivial⟩, rfl⟩
          | false =>
            refine Cd.draw mixed 15 (fun _ => none) (fun _ => []) (by kernel_rfl) (fun _ _ h => by cases h) (fun u hu => ?_)
            refine Wk.p mvs ?_
            refine Wk.p mvi ?_
            refine Wk.p (ixn (ix := j) sl_L_int (Som.row (i := 0) rfl (by omega))) ?_
            refine Wk.p (ld (v := .int .i64 n) one_int (Rd.row (i := 0) rfl hnv)) ?_
            refine Wk.p lsi ?_
            refine Wk.p mvb ?_
            refine Wk.gp q0 mvs ?_
            refine Wk.gp q0 mvi ?_
            refine Wk.gp q0 (ixn (ix := j) sl_L_int (Som.row (i := 0) rfl (by omega))) ?_
            refine Wk.gp q0 (ld (v := .int .i64 n) one_int (Rd.row (i := 0) rfl hnv)) ?_
            refine Wk.gp q0 (fdl fd_api_Func_1) ?_
            refine Wk.gp q0 (ld (v := .slice f.bA f.blocks.length f.bC) one_L_api_Block (Rd.blk (i := 2) rfl rfl)) ?_
            refine Wk.gp q0 (lens sl_L_api_Block) ?_
            refine Wk.gp q0 gei ?_
            refine Wk.p (pkFb q0) ?_
            refine Wk.nil ?_
            refine Ol.nil ?_
            exact ⟨⟨rfl, rfl, rfl, rfl, rfl, rfl, rfl, trivial⟩, rfl⟩
        rintro σ' _ ⟨hs', rfl⟩
        refine Cd.has hs' ?_
        clear hs'
        refine Cd.cond rfl (fun h4 => ?_) (fun h4 => ?_)   -- $56
        · have h5 : n < 1 ∨ (f.blocks.length : Int) ≤ n := by
            rw [Bool.or_eq_true, decide_eq_true_iff, decide_eq_true_iff] at h4
            exact h4
          refine Cd.seq ?_
          refine Cd.region ?_
          refine Ol.p ass ?_
          refine Ol.p asb ?_
          refine Ol.nil ?_
          exact Cd.ret ⟨.tuple #[.slice none 0 0, .bool false], ret2 rfl rfl rfl, [], Keep.nil, .inl ⟨hbad hx (hto ▸ hn) h5, rfl, rfl⟩⟩
        have h5 : 1 ≤ n ∧ n < (f.blocks.length : Int) := by
          rw [Bool.or_eq_false_iff, decide_eq_false_iff_not, decide_eq_false_iff_not] at h4
          omega
        obtain ⟨q, hq⟩ : ∃ q : Nat, n = (q : Int) := ⟨n.toNat, by omega⟩
        have hql : q < f.blocks.length := by omega
        have hbv : (boolsL f.blocks.length T)[q * 1]? = some (.bool (T q)) := by rw [Nat.mul_one]; exact boolsL_get hql
        have hbv2 : (boolsL f.blocks.length T)[b * 1]? = some (.bool (T b)) := by rw [Nat.mul_one]; exact boolsL_get hlt2
        have hup : passM (fun _ => true) f.terms ((edgesTo f.terms b).length + (j + 1)) S = fun i => if i = q then T q || T b else T i := by
          rw [← Nat.add_assoc, passM_succ hed, ← hT]
          funext i
          unfold upE orB
          show (if i = (n).toNat then T i || (T ((b : Int).toNat) && true) else T i) = _
          rw [hq, Int.toNat_natCast, Int.toNat_natCast, Bool.and_true]
          by_cases h : i = q
          · rw [if_pos h, if_pos h, h]
          · rw [if_neg h, if_neg h]
        refine Cd.skip ?_
        subst hL0
        have hto4 : ((to.take (j + 1)).all fun n => decide (1 ≤ n) && decide (n < (f.terms.length : Int))) = true := by
          rw [take_snoc_ hn, List.all_append, hto3]
          simp [htl, h5.1, h5.2]
        cases q12 : T q with
        | true =>
          rw [q12] at hbv
          refine Cd.draw mixed 18 (fun _ => none) (fun _ => []) (by kernel_rfl) (fun _ _ h => by cases h) (fun u hu => ?_)
          refine Wk.p mvs ?_
          refine Wk.p mvs ?_
          refine Wk.p mvi ?_
          refine Wk.p (ixn (ix := j) sl_L_int (Som.row (i := 0) rfl (by omega))) ?_
          refine Wk.p (ld (v := .int .i64 n) one_int (Rd.row (i := 0) rfl hnv)) ?_
          refine Wk.p mvs ?_
          refine Wk.p mvs ?_
          refine Wk.p mvi ?_
          refine Wk.p (ixn (ix := j) sl_L_int (Som.row (i := 0) rfl (by omega))) ?_
          refine Wk.p (ld (v := .int .i64 n) one_int (Rd.row (i := 0) rfl hnv)) ?_
          refine Wk.p (ixn (ix := q) sl_L_bool (Som.row (i := 1) rfl (by omega)) (hy := congrArg (Value.int .i64) hq)) ?_
          refine Wk.p (ld (v := .bool true) one_bool (Rd.row (i := 1) rfl hbv)) ?_
          refine Wk.p mvb ?_
          refine Wk.gn rfl ?_
          refine Wk.gn rfl ?_
          refine Wk.gn rfl ?_
          refine Wk.gn rfl ?_
          refine Wk.p (pkTb rfl) ?_
          refine Wk.nil ?_
          refine Ol.p (ixn (ix := q) sl_L_bool (Som.row (i := 1) rfl (by omega)) (hy := congrArg (Value.int .i64) hq)) ?_
          refine Ol.s (str (i := 1) (k := q * 1) (v := .bool true) sz_bool rfl rfl rfl (by rw [boolsL_len]; omega) rfl) ?_
          refine Ol.nil ?_
          refine Cd.region ?_
          refine Ol.p mvi ?_
          refine Ol.p addi ?_
          refine Ol.p asi ?_
          refine Ol.nil ?_
          refine ⟨to.length - (j + 1), by omega, j + 1, rfl, by omega, hto4, ⟨rfl, rfl, rfl, rfl, rfl, rfl, trivial⟩, ?_⟩
          rw [hup, ← boolsL_put, q12, Bool.true_or, Nat.mul_one]; rfl
        | false =>
          rw [q12] at hbv
          refine Cd.draw mixed 18 (fun _ => none) (fun _ => []) (by kernel_rfl) (fun _ _ h => by cases h) (fun u hu => ?_)
          refine Wk.p mvs ?_
          refine Wk.p mvs ?_
          refine Wk.p mvi ?_
          refine Wk.p (ixn (ix := j) sl_L_int (Som.row (i := 0) rfl (by omega))) ?_
          refine Wk.p (ld (v := .int .i64 n) one_int (Rd.row (i := 0) rfl hnv)) ?_
          refine Wk.p mvs ?_
          refine Wk.p mvs ?_
          refine Wk.p mvi ?_
          refine Wk.p (ixn (ix := j) sl_L_int (Som.row (i := 0) rfl (by omega))) ?_
          refine Wk.p (ld (v := .int .i64 n) one_int (Rd.row (i := 0) rfl hnv)) ?_
          refine Wk.p (ixn (ix := q) sl_L_bool (Som.row (i := 1) rfl (by omega)) (hy := congrArg (Value.int .i64) hq)) ?_
          refine Wk.p (ld (v := .bool false) one_bool (Rd.row (i := 1) rfl hbv)) ?_
          refine Wk.p mvb ?_
          refine Wk.gp rfl mvs ?_
          refine Wk.gp rfl mvi ?_
          refine Wk.gp rfl (ixn (ix := b) sl_L_bool (Som.row (i := 1) rfl (by omega))) ?_
          refine Wk.gp rfl (ld (v := .bool (T b)) one_bool (Rd.row (i := 1) rfl hbv2)) ?_
          refine Wk.p (pkFb rfl) ?_
          refine Wk.nil ?_
          refine Ol.p (ixn (ix := q) sl_L_bool (Som.row (i := 1) rfl (by omega)) (hy := congrArg (Value.int .i64) hq)) ?_
          refine Ol.s (str (i := 1) (k := q * 1) (v := .bool (T b)) sz_bool rfl rfl rfl (by rw [boolsL_len]; omega) rfl) ?_
          refine Ol.nil ?_
          refine Cd.region ?_
          refine Ol.p mvi ?_
          refine Ol.p addi ?_
          refine Ol.p asi ?_
          refine Ol.nil ?_
          refine ⟨to.length - (j + 1), by omega, j + 1, rfl, by omega, hto4, ⟨rfl, rfl, rfl, rfl, rfl, rfl, trivial⟩, ?_⟩
          rw [hup, ← boolsL_put, q12, Bool.false_or, Nat.mul_one]; rfl
      have hge3 := ge_of h3
      have hje : j = to.length := by omega
      rw [List.take_of_length_le hge3] at hto3
      rw [hje, hto, ← edgesTo_next hx]
      refine Cd.exit (id := 4) ?_
      refine Cd.keep (.sub (.cons _ (List.Sublist.refl _))) ?_
      refine Cd.region ?_
      refine Ol.p mvi ?_
      refine Ol.p addi ?_
      refine Ol.p asi ?_
      refine Ol.nil ?_
      refine ⟨f.blocks.length - (b + 1), by omega, b + 1, rfl, by omega, ?_, ⟨rfl, rfl, rfl, rfl, trivial⟩, rfl⟩
      rw [take_snoc_ ht, List.all_append, hall, Bool.true_and]
      show ((toL x.term).all _ && true) = true
      rw [Bool.and_true, ← hto]
      exact hto3
    have hge2 := ge_of h2
    have hbe : b = f.blocks.length := by omega
    have hok : okEs f.terms = true := by
      unfold okEs
      rw [hbe, ← htl, List.take_length] at hall
      exact hall
    have hpe : passM (fun _ => true) f.terms (edgesTo f.terms b).length S = iterF (passA (fun _ => true) f.terms) (r + 1) oneB := by
      rw [hbe, ← htl]
      show passA (fun _ => true) f.terms S = passA (fun _ => true) f.terms (iterF (passA (fun _ => true) f.terms) r oneB)
      rw [hS]
    rw [hpe]
    refine Cd.exit (id := 2) ?_
    refine Cd.region ?_
    refine Ol.p mvi ?_
    refine Ol.p addi ?_
    refine Ol.p asi ?_
    refine Ol.nil ?_
    exact ⟨f.blocks.length - (r + 1), by omega, r + 1, rfl, by omega, .inr hok, ⟨rfl, rfl, rfl, trivial⟩, rfl⟩
  have hge := ge_of h
  have hre : r = f.blocks.length := by omega
  have hok : okEs f.terms = true := hrok.resolve_left (by omega)
  rw [hS, hre]
  refine Cd.exit (id := 0) ?_
  refine Cd.seq ?_
  refine Cd.region ?_
  refine Ol.p mvs ?_
  refine Ol.p ass ?_
  refine Ol.p asb ?_
  refine Ol.nil ?_
  exact Cd.ret ⟨.tuple #[.slice (some ⟨gs, 0, none⟩) f.blocks.length f.blocks.length, .bool true], ret2 rfl rfl rfl, _, .sub (.cons_cons _ (.cons _ .slnil)), .inr ⟨hok, some ⟨gs, 0, none⟩, f.blocks.length, rfl, rfl⟩⟩
end
end Go.Proofs.Ytcojedoejpcolaa

/- The document's answer of layer 03: whether a variable may lack a value, walked. -/
namespace Go.Proofs.Ytcojedoejpcolaa
set_option linter.unusedVariables false
set_option linter.unusedSimpArgs false
open Go Go.RowKit
set_option maxRecDepth 100000

theorem boolsL_at {n i : Nat} {S : Nat → Bool} (h : i < n) : (boolsL n S)[i * 1]? = some (.bool (S i)) := by rw [Nat.mul_one]; exact boolsL_get h
theorem ints_at1 {l : List Int} {i : Nat} {n : Int} (h : l[i]? = some n) : (ints l)[i * 1]? = some (.int .i64 n) := by simp [ints, h]
theorem exposed_drop {l : List RIns} {j : Nat} {i : RIns} {t : Tm} {v : Int} (h : l[j]? = some i) : exposed (l.drop j) t v = ((readsL i).contains v || (!decide (defI i = v) && exposed (l.drop (j + 1)) t v)) := by
  obtain ⟨hl, he⟩ := List.getElem?_eq_some_iff.1 h
  rw [List.drop_eq_getElem_cons hl, he]
  rfl
theorem needs_one (t : Tm) : needsL t = [] ∨ needsL t = [t.a] := by
  unfold needsL
  cases isTerm t && !decide (t.a = 0)
  · exact .inl rfl
  · exact .inr rfl
section
set_option maxHeartbeats 8000000 in
theorem ref03_lacks_ct {w : World} {f : RFun} {v : Int} (hf : FunAt w w.heap.size f) (hfit : Fit f) (hc : closed f.terms = true) (hp : ∀ p ∈ f.params, 1 ≤ p) (hv : 1 ≤ v) (hw8 : ∀ x ∈ f.blocks, ∀ i ∈ x.ins, (readsL i).length ≤ 10) : Ct Try.prog 86 #[f.val, .int .i64 v] w (Is (.bool (lacksB f v))) := by
  have htl : f.terms.length = f.blocks.length := by simp [RFun.terms]
  have h0 : 0 < f.blocks.length := by have := (closed_len hc).1; omega
  have h200 : f.blocks.length ≤ 200 := by have := (closed_len hc).2.1; omega
  have hpl := hfit.plen
  obtain ⟨F, hF⟩ : ∃ F, F = passA (bareP f v) f.terms := ⟨_, rfl⟩
  have hyes : ∀ {m r b : Nat} {x : RBlk}, f.blocks[b]? = some x → exposed x.ins x.term v = true → passM (bareP f v) f.terms m (iterF F r (openB f v)) b = true → lacksB f v = true := fun {m r b x} hx he hs => by
    rw [lacksB_iff]
    exact ⟨b, x, hx, he, open_sound hc hv hp m r b (hF ▸ hs)⟩
  refine Ct.mk Try.func86 rfl rfl ?_
  refine Cd.seq ?_
  refine Cd.region ?_
  refine Ol.x bxg ?_
  rintro _ _ ⟨g2, rfl, rfl⟩
  refine Ol.p asb ?_
  refine Ol.nil ?_
  refine Cd.seq ?_
  refine Cd.region ?_
  refine Ol.p (fdl fd_api_Func_1) ?_
  refine Ol.p (ld (v := .slice f.bA f.blocks.length f.bC) one_L_api_Block (Rd.blk (i := 0) rfl rfl)) ?_
  refine Ol.p (lens sl_L_api_Block) ?_
  refine Ol.x (mks (n := f.blocks.length) (c := f.blocks.length) sl_L_bool zr_bool) ?_
  rintro _ _ ⟨gs, rfl, rfl⟩
  refine Ol.p ass ?_
  refine Ol.nil ?_
  rw [show (madeCells (Value.bool false).cells (f.blocks.length * 1)).toList.take (f.blocks.length * 1) = boolsL f.blocks.length fun _ => false from made_bools _]
  refine Cd.seq ?_
  refine Cd.region ?_
  refine Ol.p mvs ?_
  refine Ol.p (ixn1 (ix := 0) sl_L_bool (Som.row (i := 0) rfl (by omega))) ?_
  refine Ol.s (str (i := 0) (k := 0) (v := .bool true) sz_bool rfl rfl rfl (by rw [boolsL_len]; exact h0) rfl) ?_
  refine Ol.nil ?_
  rw [show (boolsL f.blocks.length fun _ => false).set 0 (.bool true) = boolsL f.blocks.length fun i => decide (i = 0) && !(f.params.take 0).contains v from by rw [boolsL_put]; exact boolsL_same fun i _ => by by_cases h : i = 0 <;> simp [h]]
  refine Cd.mid (fun σ' L' => Has σ' [(1, .int .i64 v), (2, .pointer (some ⟨g2, 0, none⟩)), (5, .slice (some ⟨gs, 0, none⟩) f.blocks.length f.blocks.length)] ∧ [row (.slice (some ⟨gs, 0, none⟩) f.blocks.length f.blocks.length) 4 1 f.blocks.length (boolsL f.blocks.length (openB f v)), blk g2 (.cells f.cells.toArray 43)] = L') ?_ ?_
  · refine Cd.seq ?_
    refine Cd.region ?_
    refine Ol.p asi ?_
    refine Ol.nil ?_
    refine Cd.block ?_   -- 0
    refine Cd.loop (fun m σ L => ∃ k, m = f.params.length - k ∧ k ≤ f.params.length ∧ Has σ [(1, .int .i64 v), (2, .pointer (some ⟨g2, 0, none⟩)), (5, .slice (some ⟨gs, 0, none⟩) f.blocks.length f.blocks.length), (6, .int .i64 k)] ∧ [row (.slice (some ⟨gs, 0, none⟩) f.blocks.length f.blocks.length) 4 1 f.blocks.length (boolsL f.blocks.length fun i => decide (i = 0) && !(f.params.take k).contains v), blk g2 (.cells f.cells.toArray 43)] = L) (n := f.params.length) ⟨0, rfl, Nat.zero_le _, ⟨rfl, rfl, rfl, rfl, trivial⟩, rfl⟩ ?_
    rintro _ σ L ⟨k, rfl, hk, hs, rfl⟩
    refine Cd.has hs ?_
    clear hs
    refine Cd.seq ?_
    refine Cd.seq ?_
    refine Cd.region ?_
    refine Ol.p mvi ?_
    refine Ol.p (fdl fd_api_Func_0) ?_
    refine Ol.p (ld (v := .slice f.pA f.params.length f.pC) one_L_int (Rd.blk (i := 1) rfl rfl)) ?_
    refine Ol.p (lens sl_L_int) ?_
    refine Ol.p lsi ?_
    refine Ol.nil ?_
    refine Cd.cond rfl (fun h => ?_) (fun h => ?_)   -- $27
    · have hlt := lt_of h
      obtain ⟨n, hn⟩ : ∃ n, f.params[k]? = some n := ⟨_, List.getElem?_eq_getElem hlt⟩
      have hcon : (f.params.take (k + 1)).contains v = ((f.params.take k).contains v || decide (n = v)) := by
        rw [take_snoc_ hn, Bool.eq_iff_iff, List.contains_iff_mem, List.mem_append, List.mem_singleton, Bool.or_eq_true, List.contains_iff_mem, decide_eq_true_iff]
        exact or_congr Iff.rfl ⟨fun h => h.symm, fun h => h.symm⟩
      refine Cd.skip ?_
      refine Cd.mid (fun σ' L' => Has σ' [(1, .int .i64 v), (2, .pointer (some ⟨g2, 0, none⟩)), (5, .slice (some ⟨gs, 0, none⟩) f.blocks.length f.blocks.length), (6, .int .i64 k)] ∧ [row (.slice (some ⟨gs, 0, none⟩) f.blocks.length f.blocks.length) 4 1 f.blocks.length (boolsL f.blocks.length fun i => decide (i = 0) && !(f.params.take (k + 1)).contains v), blk g2 (.cells f.cells.toArray 43)] = L') ?_ ?_
      · refine Cd.block ?_   -- 1
        refine Cd.seq ?_
        refine Cd.region ?_
        refine Ol.p (fdl fd_api_Func_0) ?_
        refine Ol.p (ld (v := .slice f.pA f.params.length f.pC) one_L_int (Rd.blk (i := 1) rfl rfl)) ?_
        refine Ol.p mvi ?_
        refine Ol.p (ixn (ix := k) sl_L_int (Som.slc hf.params (by omega))) ?_
        refine Ol.p (ld (v := .int .i64 n) one_int (Rd.slc hf.params (ints_at1 hn))) ?_
        refine Ol.p mvi ?_
        refine Ol.p eqi ?_
        refine Ol.nil ?_
        refine Cd.cond rfl (fun h2 => ?_) (fun h2 => ?_)   -- $36
        · skip
          refine Cd.region ?_
          refine Ol.p mvs ?_
          refine Ol.p (ixn1 (ix := 0) sl_L_bool (Som.row (i := 0) rfl (by omega))) ?_
          refine Ol.s (str (i := 0) (k := 0) (v := .bool false) sz_bool rfl rfl rfl (by rw [boolsL_len]; exact h0) rfl) ?_
          refine Ol.nil ?_
          refine ⟨⟨rfl, rfl, rfl, rfl, trivial⟩, ?_⟩
          rw [show (boolsL f.blocks.length fun i => decide (i = 0) && !(f.params.take (k + 1)).contains v) = (boolsL f.blocks.length fun i => decide (i = 0) && !(f.params.take k).contains v).set 0 (.bool false) from by
            rw [boolsL_put]
            exact boolsL_same fun i _ => by
              have h2 : decide (n = v) = true := h2
              by_cases h : i = 0 <;> simp only [hcon, h2, h, Bool.or_true, Bool.not_true, Bool.and_false, decide_false, Bool.false_and, if_true, if_false]]
          rfl
        refine Cd.skip ?_
        refine ⟨⟨rfl, rfl, rfl, rfl, trivial⟩, ?_⟩
        have h2 : decide (n = v) = false := h2
        simp only [hcon, h2, Bool.or_false]
      rintro σ' _ ⟨hs', rfl⟩
      refine Cd.has hs' ?_
      clear hs'
      refine Cd.region ?_
      refine Ol.p mvi ?_
      refine Ol.p addi ?_
      refine Ol.p asi ?_
      refine Ol.nil ?_
      exact ⟨f.params.length - (k + 1), by omega, k + 1, rfl, by omega, ⟨rfl, rfl, rfl, rfl, trivial⟩, rfl⟩
    have hge := ge_of h
    rw [List.take_of_length_le hge]
    refine Cd.exit (id := 0) ?_
    exact ⟨⟨rfl, rfl, rfl, trivial⟩, rfl⟩
  rintro σ' _ ⟨hs', rfl⟩
  refine Cd.has hs' ?_
  clear hs'
  refine Cd.seq ?_
  refine Cd.seq ?_
  refine Cd.region ?_
  refine Ol.p asi ?_
  refine Ol.nil ?_
  refine Cd.block ?_   -- 2
  refine Cd.loop (fun m σ L => ∃ r, m = f.blocks.length - r ∧ r ≤ f.blocks.length ∧ (1 ≤ r → ∀ b x, f.blocks[b]? = some x → iterF F (r - 1) (openB f v) b = true → exposed x.ins x.term v = false) ∧ Has σ [(1, .int .i64 v), (2, .pointer (some ⟨g2, 0, none⟩)), (5, .slice (some ⟨gs, 0, none⟩) f.blocks.length f.blocks.length), (7, .int .i64 r)] ∧ [row (.slice (some ⟨gs, 0, none⟩) f.blocks.length f.blocks.length) 4 1 f.blocks.length (boolsL f.blocks.length (iterF F r (openB f v))), blk g2 (.cells f.cells.toArray 43)] = L) (n := f.blocks.length) ⟨0, rfl, Nat.zero_le _, (fun h => by omega), ⟨rfl, rfl, rfl, rfl, trivial⟩, rfl⟩ ?_
  rintro _ σ L ⟨r, rfl, hr, hrec, hs, rfl⟩
  refine Cd.has hs ?_
  clear hs
  obtain ⟨S, hS⟩ : ∃ S, S = iterF F r (openB f v) := ⟨_, rfl⟩
  rw [← hS]
  refine Cd.seq ?_
  refine Cd.seq ?_
  refine Cd.region ?_
  refine Ol.p mvi ?_
  refine Ol.p (fdl fd_api_Func_1) ?_
  refine Ol.p (ld (v := .slice f.bA f.blocks.length f.bC) one_L_api_Block (Rd.blk (i := 1) rfl rfl)) ?_
  refine Ol.p (lens sl_L_api_Block) ?_
  refine Ol.p lsi ?_
  refine Ol.nil ?_
  refine Cd.cond rfl (fun h => ?_) (fun h => ?_)   -- $43
  · have hlt := lt_of h
    refine Cd.skip ?_
    refine Cd.seq ?_
    refine Cd.block ?_   -- 3
    refine Cd.seq ?_
    refine Cd.region ?_
    refine Ol.p asi ?_
    refine Ol.nil ?_
    refine Cd.block ?_   -- 4
    refine Cd.loop (fun m σ L => ∃ b, m = f.blocks.length - b ∧ b ≤ f.blocks.length ∧ (∀ b' x, b' < b → f.blocks[b']? = some x → S b' = true → exposed x.ins x.term v = false) ∧ Has σ [(1, .int .i64 v), (2, .pointer (some ⟨g2, 0, none⟩)), (5, .slice (some ⟨gs, 0, none⟩) f.blocks.length f.blocks.length), (7, .int .i64 r), (8, .int .i64 b)] ∧ [row (.slice (some ⟨gs, 0, none⟩) f.blocks.length f.blocks.length) 4 1 f.blocks.length (boolsL f.blocks.length (passM (bareP f v) f.terms (edgesTo f.terms b).length S)), blk g2 (.cells f.cells.toArray 43)] = L) (n := f.blocks.length) ⟨0, rfl, Nat.zero_le _, (fun _ _ h => by omega), ⟨rfl, rfl, rfl, rfl, rfl, trivial⟩, rfl⟩ ?_
    rintro _ σ L ⟨b, rfl, hb, hbs, hs, rfl⟩
    refine Cd.has hs ?_
    clear hs
    refine Cd.seq ?_
    refine Cd.seq ?_
    refine Cd.region ?_
    refine Ol.p mvi ?_
    refine Ol.p (fdl fd_api_Func_1) ?_
    refine Ol.p (ld (v := .slice f.bA f.blocks.length f.bC) one_L_api_Block (Rd.blk (i := 1) rfl rfl)) ?_
    refine Ol.p (lens sl_L_api_Block) ?_
    refine Ol.p lsi ?_
    refine Ol.nil ?_
    refine Cd.cond rfl (fun h2 => ?_) (fun h2 => ?_)   -- $50
    · have hlt2 := lt_of h2
      obtain ⟨x, hx⟩ : ∃ x, f.blocks[b]? = some x := ⟨_, List.getElem?_eq_getElem hlt2⟩
      have hxm := List.mem_of_getElem? hx
      have hxl := hfit.ilen x hxm
      have hlx : f.terms[b]? = some x.term := by unfold RFun.terms; rw [List.getElem?_map, hx]; rfl
      obtain ⟨T, hT⟩ : ∃ T, T = passM (bareP f v) f.terms (edgesTo f.terms b).length S := ⟨_, rfl⟩
      have hyesT : exposed x.ins x.term v = true → T b = true → lacksB f v = true := fun he hTb => hyes hx he (by rw [← hS, ← hT]; exact hTb)
      rw [← hT]
      refine Cd.skip ?_
      refine Cd.seq ?_
      refine Cd.block ?_   -- 5
      refine Cd.seq ?_
      refine Cd.region ?_
      refine Ol.p mvs ?_
      refine Ol.p mvi ?_
      refine Ol.p (ixn (ix := b) sl_L_bool (Som.row (i := 0) rfl (by omega))) ?_
      refine Ol.p (ld (v := .bool (T b)) one_bool (Rd.row (i := 0) rfl (boolsL_at hlt2))) ?_
      refine Ol.p asb ?_
      refine Ol.nil ?_
      refine Cd.mid (fun σ' L' => (T b = true → exposed x.ins x.term v = ((T b && bareP f v b) && (needsL x.term).contains v)) ∧ Has σ' [(1, .int .i64 v), (2, .pointer (some ⟨g2, 0, none⟩)), (5, .slice (some ⟨gs, 0, none⟩) f.blocks.length f.blocks.length), (7, .int .i64 r), (8, .int .i64 b), (9, .bool (T b && bareP f v b))] ∧ [row (.slice (some ⟨gs, 0, none⟩) f.blocks.length f.blocks.length) 4 1 f.blocks.length (boolsL f.blocks.length T), blk g2 (.cells f.cells.toArray 43)] = L') ?_ ?_
      · refine Cd.seq ?_
        refine Cd.region ?_
        refine Ol.p asi ?_
        refine Ol.nil ?_
        refine Cd.block ?_   -- 6
        refine Cd.loop (fun m σ L => ∃ j bj, m = x.ins.length - j ∧ j ≤ x.ins.length ∧ bj = (T b && (x.ins.take j).all fun i => !decide (defI i = v)) ∧ (T b = true → exposed x.ins x.term v = (bj && exposed (x.ins.drop j) x.term v)) ∧ Has σ [(1, .int .i64 v), (2, .pointer (some ⟨g2, 0, none⟩)), (5, .slice (some ⟨gs, 0, none⟩) f.blocks.length f.blocks.length), (7, .int .i64 r), (8, .int .i64 b), (9, .bool bj), (10, .int .i64 j)] ∧ [row (.slice (some ⟨gs, 0, none⟩) f.blocks.length f.blocks.length) 4 1 f.blocks.length (boolsL f.blocks.length T), blk g2 (.cells f.cells.toArray 43)] = L) (n := x.ins.length) ⟨0, T b, rfl, Nat.zero_le _, by simp, (fun h => by rw [h]; simp), ⟨rfl, rfl, rfl, rfl, rfl, rfl, rfl, trivial⟩, rfl⟩ ?_
        rintro _ σ L ⟨j, bj, rfl, hj, hbj, hexp, hs, rfl⟩
        refine Cd.has hs ?_
        clear hs
        refine Cd.seq ?_
        refine Cd.seq ?_
        refine Cd.region ?_
        refine Ol.p mvi ?_
        refine Ol.p (fdl fd_api_Func_1) ?_
        refine Ol.p (ld (v := .slice f.bA f.blocks.length f.bC) one_L_api_Block (Rd.blk (i := 1) rfl rfl)) ?_
        refine Ol.p mvi ?_
        refine Ol.p (ixn (ix := b) sl_L_api_Block (Som.slc hf.blocks (by omega))) ?_
        refine Ol.p (fdp fd_api_Block_0) ?_
        refine Ol.p (ld (v := .slice x.iA x.ins.length x.iC) one_L_api_Ins (Rd.slc hf.blocks (ins_slc hx))) ?_
        refine Ol.p (lens sl_L_api_Ins) ?_
        refine Ol.p lsi ?_
        refine Ol.nil ?_
        refine Cd.cond rfl (fun h3 => ?_) (fun h3 => ?_)   -- $65
        · have hlt3 := lt_of h3
          obtain ⟨i, hi⟩ : ∃ i, x.ins[j]? = some i := ⟨_, List.getElem?_eq_getElem hlt3⟩
          have him := List.mem_of_getElem? hi
          have hial := hfit.alen x hxm i him
          have hil := hw8 x hxm i him
          obtain ⟨rl, hrl⟩ : ∃ rl, rl = readsL i := ⟨_, rfl⟩
          have hdr := exposed_drop (t := x.term) (v := v) hi
          rw [← hrl] at hil hdr
          refine Cd.skip ?_
          refine Cd.seq ?_
          refine Cd.block ?_   -- 7
          refine Cd.seq ?_
          refine Cd.region ?_
          refine Ol.p (fdl fd_api_Func_1) ?_
          refine Ol.p (ld (v := .slice f.bA f.blocks.length f.bC) one_L_api_Block (Rd.blk (i := 1) rfl rfl)) ?_
          refine Ol.p mvi ?_
          refine Ol.p (ixn (ix := b) sl_L_api_Block (Som.slc hf.blocks (by omega))) ?_
          refine Ol.p (fdp fd_api_Block_0) ?_
          refine Ol.p (ld (v := .slice x.iA x.ins.length x.iC) one_L_api_Ins (Rd.slc hf.blocks (ins_slc hx))) ?_
          refine Ol.p mvi ?_
          refine Ol.p (ixn (ix := j) sl_L_api_Ins (Som.slc (hf.ins x hxm) (by omega))) ?_
          refine Ol.p (lds (es := i.cells) ag_api_Ins (hf.ins x hxm) i.len (fun q u hu => ins_cell hi hu)) ?_
          refine Ol.x (alc zr_api_Ins) ?_
          rintro _ _ ⟨g11, rfl, rfl⟩
          refine Ol.s (stw (vs := i.cells.toArray) sz_api_Ins rfl i.one (i := 0) rfl rfl) ?_
          refine Ol.nil ?_
          refine Cd.seq ?_
          refine Cd.region ?_
          refine Ol.p (ldw (cs := i.cells.toArray) ag_api_Ins (i := 0) rfl rfl) ?_
          refine Ol.x (sp_call (vs := [i.val]) (R := NewL 3 1 rl.length (ints rl)) en_ref03_Reads (fun M w' hh => hrl ▸ ref03_Reads_ct ((hf.args x hxm i him).now hh) (by omega))) ?_
          rintro _ _ ⟨_, rfl, A78, c78, rfl, rfl⟩
          refine Ol.p ass ?_
          refine Ol.nil ?_
          refine Cd.mid (fun σ' L' => (bj = true → rl.contains v = false) ∧ Has σ' [(1, .int .i64 v), (2, .pointer (some ⟨g2, 0, none⟩)), (5, .slice (some ⟨gs, 0, none⟩) f.blocks.length f.blocks.length), (7, .int .i64 r), (8, .int .i64 b), (9, .bool bj), (10, .int .i64 j), (11, .pointer (some ⟨g11, 0, none⟩))] ∧ [blk g11 (.cells i.cells.toArray 25), row (.slice (some ⟨gs, 0, none⟩) f.blocks.length f.blocks.length) 4 1 f.blocks.length (boolsL f.blocks.length T), blk g2 (.cells f.cells.toArray 43)] = L') ?_ ?_
          · refine Cd.seq ?_
            refine Cd.region ?_
            refine Ol.p asi ?_
            refine Ol.nil ?_
            refine Cd.block ?_   -- 8
            refine Cd.loop (fun m σ L => ∃ q, m = rl.length - q ∧ q ≤ rl.length ∧ (bj = true → (rl.take q).contains v = false) ∧ Has σ [(1, .int .i64 v), (2, .pointer (some ⟨g2, 0, none⟩)), (5, .slice (some ⟨gs, 0, none⟩) f.blocks.length f.blocks.length), (7, .int .i64 r), (8, .int .i64 b), (9, .bool bj), (10, .int .i64 j), (11, .pointer (some ⟨g11, 0, none⟩)), (12, .slice A78 rl.length c78), (13, .int .i64 q)] ∧ [row (.slice A78 rl.length c78) 3 1 rl.length (ints rl), blk g11 (.cells i.cells.toArray 25), row (.slice (some ⟨gs, 0, none⟩) f.blocks.length f.blocks.length) 4 1 f.blocks.length (boolsL f.blocks.length T), blk g2 (.cells f.cells.toArray 43)] = L) (n := rl.length) ⟨0, rfl, Nat.zero_le _, (fun _ => rfl), ⟨rfl, rfl, rfl, rfl, rfl, rfl, rfl, rfl, rfl, rfl, trivial⟩, rfl⟩ ?_
            rintro _ σ L ⟨q, rfl, hq, hqn, hs, rfl⟩
            refine Cd.has hs ?_
            clear hs
            refine Cd.seq ?_
            refine Cd.seq ?_
            refine Cd.region ?_
            refine Ol.p mvi ?_
            refine Ol.p mvs ?_
            refine Ol.p (lens sl_L_int) ?_
            refine Ol.p lsi ?_
            refine Ol.nil ?_
            refine Cd.cond rfl (fun h4 => ?_) (fun h4 => ?_)   -- $82
            · have hlt4 := lt_of h4
              obtain ⟨n, hn⟩ : ∃ n, rl[q]? = some n := ⟨_, List.getElem?_eq_getElem hlt4⟩
              have hcon : (rl.take (q + 1)).contains v = ((rl.take q).contains v || decide (n = v)) := by
                rw [take_snoc_ hn, Bool.eq_iff_iff, List.contains_iff_mem, List.mem_append, List.mem_singleton, Bool.or_eq_true, List.contains_iff_mem, decide_eq_true_iff]
                exact or_congr Iff.rfl ⟨fun h => h.symm, fun h => h.symm⟩
              refine Cd.skip ?_
              refine Cd.seq ?_
              refine Cd.block ?_   -- 9
              refine Cd.mid (fun σ' L' => Has σ' [(1, .int .i64 v), (2, .pointer (some ⟨g2, 0, none⟩)), (5, .slice (some ⟨gs, 0, none⟩) f.blocks.length f.blocks.length), (7, .int .i64 r), (8, .int .i64 b), (9, .bool bj), (10, .int .i64 j), (11, .pointer (some ⟨g11, 0, none⟩)), (12, .slice A78 rl.length c78), (13, .int .i64 q), (93, .bool (decide (n = v) && bj))] ∧ [row (.slice A78 rl.length c78) 3 1 rl.length (ints rl), blk g11 (.cells i.cells.toArray 25), row (.slice (some ⟨gs, 0, none⟩) f.blocks.length f.blocks.length) 4 1 f.blocks.length (boolsL f.blocks.length T), blk g2 (.cells f.cells.toArray 43)] = L') ?_ ?_
              · cases q0 : decide (n = v) with
                | true =>
                  refine Cd.region ?_
                  refine Ol.p mvs ?_
                  refine Ol.p mvi ?_
                  refine Ol.p (ixn (ix := q) sl_L_int (Som.row (i := 0) rfl (by omega))) ?_
                  refine Ol.p (ld (v := .int .i64 n) one_int (Rd.row (i := 0) rfl (ints_at1 hn))) ?_
                  refine Ol.p mvi ?_
                  refine Ol.p eqi ?_
                  refine Ol.p mvb ?_
                  refine Ol.gp q0 mvb ?_
                  refine Ol.p (pkTb q0) ?_
                  refine Ol.nil ?_
                  exact ⟨⟨rfl, rfl, rfl, rfl, rfl, rfl, rfl, rfl, rfl, rfl, rfl, trivial⟩, rfl⟩
                | false =>
                  refine Cd.region ?_
                  refine Ol.p mvs ?_
                  refine Ol.p mvi ?_
                  refine Ol.p (ixn (ix := q) sl_L_int (Som.row (i := 0) rfl (by omega))) ?_
                  refine Ol.p (ld (v := .int .i64 n) one_int (Rd.row (i := 0) rfl (ints_at1 hn))) ?_
                  refine Ol.p mvi ?_
                  refine Ol.p eqi ?_
                  refine Ol.p mvb ?_
                  refine Ol.gn q0 ?_
                  refine Ol.p (pkFb q0) ?_
                  refine Ol.nil ?_
                  exact ⟨⟨rfl, rfl, rfl, rfl, rfl, rfl, rfl, rfl, rfl, rfl, rfl, trivial⟩, rfl⟩
              rintro σ' _ ⟨hs', rfl⟩
              refine Cd.has hs' ?_
              clear hs'
              refine Cd.cond rfl (fun h5 => ?_) (fun h5 => ?_)   -- $93
              · rw [Bool.and_eq_true, decide_eq_true_iff] at h5
                obtain ⟨hnv, hbt⟩ := h5
                have hTb : T b = true := by
                  rw [hbt] at hbj
                  exact (Bool.and_eq_true_iff.1 hbj.symm).1
                have hex : exposed x.ins x.term v = true := by
                  rw [hexp hTb, hbt, hdr, List.contains_iff_mem.2 (hnv ▸ List.mem_of_getElem? hn)]
                  rfl
                refine Cd.seq ?_
                refine Cd.region ?_
                refine Ol.p asb ?_
                refine Ol.nil ?_
                exact Cd.ret ⟨.bool true, ret1 rfl rfl, [], Keep.nil, by rw [hyesT hex hTb], rfl⟩
              refine Cd.skip ?_
              refine Cd.region ?_
              refine Ol.p mvi ?_
              refine Ol.p addi ?_
              refine Ol.p asi ?_
              refine Ol.nil ?_
              refine ⟨rl.length - (q + 1), by omega, q + 1, rfl, by omega, fun hbt => ?_, ⟨rfl, rfl, rfl, rfl, rfl, rfl, rfl, rfl, rfl, rfl, trivial⟩, rfl⟩
              rw [hbt, Bool.and_true] at h5
              rw [hcon, hqn hbt, h5]
              rfl
            have hge4 := ge_of h4
            rw [List.take_of_length_le hge4] at hqn
            refine Cd.keep (.sub (.cons _ (List.Sublist.refl _))) ?_
            refine Cd.exit (id := 8) ?_
            exact ⟨hqn, ⟨rfl, rfl, rfl, rfl, rfl, rfl, rfl, rfl, trivial⟩, rfl⟩
          rintro σ' _ ⟨hqn, hs', rfl⟩
          refine Cd.has hs' ?_
          clear hs'
          have hall : ((x.ins.take (j + 1)).all fun i => !decide (defI i = v)) = (((x.ins.take j).all fun i => !decide (defI i = v)) && !decide (defI i = v)) := by
            rw [take_snoc_ hi, List.all_append]
            simp
          have hnew : T b = true → exposed x.ins x.term v = ((bj && !decide (defI i = v)) && exposed (x.ins.drop (j + 1)) x.term v) := fun hTb => by
            rw [hexp hTb, hdr]
            cases hbt : bj with
            | false => rfl
            | true => rw [hqn hbt]; simp
          cases q1 : bj with
          | true =>
            rw [q1] at hnew hbj
            refine Cd.region ?_
            refine Ol.p mvb ?_
            refine Ol.p mvb ?_
            refine Ol.gp rfl (ldw (cs := i.cells.toArray) ag_api_Ins (i := 0) rfl rfl) ?_
            refine Ol.gs rfl (cl (v := .int .i64 (defI i)) en_ref03_Defines (fun M w' hh => ref03_Defines_ct ((hf.args x hxm i him).now hh) (by omega))) ?_
            refine Ol.gp rfl mvi ?_
            refine Ol.gp rfl nei ?_
            refine Ol.p (pkTb rfl) ?_
            refine Ol.p asb ?_
            refine Ol.nil ?_
            refine Cd.region ?_
            refine Ol.p mvi ?_
            refine Ol.p addi ?_
            refine Ol.p asi ?_
            refine Ol.keep (.sub (.cons _ (List.Sublist.refl _))) ?_
            refine Ol.nil ?_
            refine ⟨x.ins.length - (j + 1), by omega, j + 1, !decide (defI i = v), rfl, by omega, ?_, (fun hTb => by rw [hnew hTb, Bool.true_and]), ⟨rfl, rfl, rfl, rfl, rfl, rfl, rfl, trivial⟩, rfl⟩
            rw [hall, ← Bool.and_assoc, ← hbj]
            simp
          | false =>
            rw [q1] at hnew hbj
            refine Cd.region ?_
            refine Ol.p mvb ?_
            refine Ol.p mvb ?_
            refine Ol.gn rfl ?_
            refine Ol.gn rfl ?_
            refine Ol.gn rfl ?_
            refine Ol.gn rfl ?_
            refine Ol.p (pkFb rfl) ?_
            refine Ol.p asb ?_
            refine Ol.nil ?_
            refine Cd.region ?_
            refine Ol.p mvi ?_
            refine Ol.p addi ?_
            refine Ol.p asi ?_
            refine Ol.keep (.sub (.cons _ (List.Sublist.refl _))) ?_
            refine Ol.nil ?_
            refine ⟨x.ins.length - (j + 1), by omega, j + 1, false, rfl, by omega, ?_, (fun hTb => by rw [hnew hTb]; rfl), ⟨rfl, rfl, rfl, rfl, rfl, rfl, rfl, trivial⟩, rfl⟩
            rw [hall, ← Bool.and_assoc, ← hbj]
            rfl
        have hge3 := ge_of h3
        have hbP : bareP f v b = x.ins.all fun i => !decide (defI i = v) := by unfold bareP; rw [hx]
        rw [List.take_of_length_le hge3, ← hbP] at hbj
        rw [List.drop_of_length_le hge3] at hexp
        refine Cd.exit (id := 6) ?_
        rw [hbj]
        refine ⟨fun hTb => ?_, ⟨rfl, rfl, rfl, rfl, rfl, rfl, trivial⟩, rfl⟩
        rw [hexp hTb, hbj]
        rfl
      rintro σ' _ ⟨hexp, hs', rfl⟩
      refine Cd.has hs' ?_
      clear hs'
      obtain ⟨bt, hbt⟩ : ∃ bt, bt = (T b && bareP f v b) := ⟨_, rfl⟩
      rw [← hbt] at hexp ⊢
      obtain ⟨nl, hnl⟩ : ∃ nl, nl = needsL x.term := ⟨_, rfl⟩
      obtain ⟨to, hto⟩ : ∃ to, to = toL x.term := ⟨_, rfl⟩
      have hto2 : to.length ≤ 2 := by rw [hto]; exact toL_len _
      rw [← hnl] at hexp
      refine Cd.seq ?_
      refine Cd.region ?_
      refine Ol.p (fdl fd_api_Func_1) ?_
      refine Ol.p (ld (v := .slice f.bA f.blocks.length f.bC) one_L_api_Block (Rd.blk (i := 1) rfl rfl)) ?_
      refine Ol.p mvi ?_
      refine Ol.p (ixn (ix := b) sl_L_api_Block (Som.slc hf.blocks (by omega))) ?_
      refine Ol.p (fdp fd_api_Block_1) ?_
      refine Ol.p (lds (es := x.term.cells) ag_api_Term hf.blocks rfl (tm_slc hx)) ?_
      refine Ol.x (sp_call (vs := [x.term.val]) (R := NewL 3 1 nl.length (ints nl)) en_ref03_Needs (fun M w' hh => hnl ▸ ref03_Needs_ct (t := x.term))) ?_
      rintro _ _ ⟨_, rfl, A107, c107, rfl, rfl⟩
      refine Ol.p ass ?_
      refine Ol.nil ?_
      refine Cd.seq ?_
      refine Cd.mid (fun σ' L' => Has σ' [(1, .int .i64 v), (2, .pointer (some ⟨g2, 0, none⟩)), (5, .slice (some ⟨gs, 0, none⟩) f.blocks.length f.blocks.length), (7, .int .i64 r), (8, .int .i64 b), (9, .bool bt), (120, .bool (nl.contains v && bt))] ∧ [row (.slice (some ⟨gs, 0, none⟩) f.blocks.length f.blocks.length) 4 1 f.blocks.length (boolsL f.blocks.length T), blk g2 (.cells f.cells.toArray 43)] = L') ?_ ?_
      · rcases hnl ▸ needs_one x.term with h6 | h6
        · subst h6
          refine Cd.region ?_
          refine Ol.p mvs ?_
          refine Ol.p (lens sl_L_int) ?_
          refine Ol.p gti ?_
          refine Ol.p mvb ?_
          refine Ol.gn rfl ?_
          refine Ol.gn rfl ?_
          refine Ol.gn rfl ?_
          refine Ol.gn rfl ?_
          refine Ol.gn rfl ?_
          refine Ol.p (pkFb rfl) ?_
          refine Ol.p mvb ?_
          refine Ol.gn rfl ?_
          refine Ol.p (pkFb rfl) ?_
          refine Ol.keep (.sub (.cons _ (List.Sublist.refl _))) ?_
          refine Ol.nil ?_
          exact ⟨⟨rfl, rfl, rfl, rfl, rfl, rfl, rfl, trivial⟩, rfl⟩
        · have h6c : nl.contains v = decide (x.term.a = v) := by
            rw [h6, Bool.eq_iff_iff, List.contains_iff_mem, List.mem_singleton, decide_eq_true_iff]
            exact ⟨fun h => h.symm, fun h => h.symm⟩
          rw [h6c]
          have h6l : nl.length = 1 := by rw [h6]; rfl
          have q3 : decide ((0 : Int) < (nl.length : Int)) = true := by rw [h6l]; rfl
          have h6i : (ints nl)[0 * 1]? = some (.int .i64 x.term.a) := by rw [h6]; rfl
          cases q10 : decide (x.term.a = v) with
          | true =>
            refine Cd.region ?_
            refine Ol.p mvs ?_
            refine Ol.p (lens sl_L_int) ?_
            refine Ol.p gti ?_
            refine Ol.p mvb ?_
            refine Ol.gp q3 mvs ?_
            refine Ol.gp q3 (ixn (ix := 0) sl_L_int (Som.row (i := 0) rfl (by omega))) ?_
            refine Ol.gp q3 (ld (v := .int .i64 x.term.a) one_int (Rd.row (i := 0) rfl h6i)) ?_
            refine Ol.gp q3 mvi ?_
            refine Ol.gp q3 eqi ?_
            refine Ol.p (pkTb q3) ?_
            refine Ol.p mvb ?_
            refine Ol.gp q10 mvb ?_
            refine Ol.p (pkTb q10) ?_
            refine Ol.keep (.sub (.cons _ (List.Sublist.refl _))) ?_
            refine Ol.nil ?_
            exact ⟨⟨rfl, rfl, rfl, rfl, rfl, rfl, rfl, trivial⟩, rfl⟩
          | false =>
            refine Cd.region ?_
            refine Ol.p mvs ?_
            refine Ol.p (lens sl_L_int) ?_
            refine Ol.p gti ?_
            refine Ol.p mvb ?_
            refine Ol.gp q3 mvs ?_
            refine Ol.gp q3 (ixn (ix := 0) sl_L_int (Som.row (i := 0) rfl (by omega))) ?_
            refine Ol.gp q3 (ld (v := .int .i64 x.term.a) one_int (Rd.row (i := 0) rfl h6i)) ?_
            refine Ol.gp q3 mvi ?_
            refine Ol.gp q3 eqi ?_
            refine Ol.p (pkTb q3) ?_
            refine Ol.p mvb ?_
            refine Ol.gn q10 ?_
            refine Ol.p (pkFb q10) ?_
            refine Ol.keep (.sub (.cons _ (List.Sublist.refl _))) ?_
            refine Ol.nil ?_
            exact ⟨⟨rfl, rfl, rfl, rfl, rfl, rfl, rfl, trivial⟩, rfl⟩
      rintro σ' _ ⟨hs', rfl⟩
      refine Cd.has hs' ?_
      clear hs'
      refine Cd.cond rfl (fun h7 => ?_) (fun h7 => ?_)   -- $120
      · rw [Bool.and_eq_true] at h7
        have hTb : T b = true := by
          rw [h7.2] at hbt
          exact (Bool.and_eq_true_iff.1 hbt.symm).1
        have hex : exposed x.ins x.term v = true := by rw [hexp hTb, h7.1, h7.2]; rfl
        refine Cd.seq ?_
        refine Cd.region ?_
        refine Ol.p asb ?_
        refine Ol.nil ?_
        exact Cd.ret ⟨.bool true, ret1 rfl rfl, [], Keep.nil, by rw [hyesT hex hTb], rfl⟩
      have hnone : T b = true → exposed x.ins x.term v = false := fun hTb => by rw [hexp hTb, Bool.and_comm]; exact h7
      refine Cd.skip ?_
      refine Cd.seq ?_
      refine Cd.region ?_
      refine Ol.p (fdl fd_api_Func_1) ?_
      refine Ol.p (ld (v := .slice f.bA f.blocks.length f.bC) one_L_api_Block (Rd.blk (i := 1) rfl rfl)) ?_
      refine Ol.p mvi ?_
      refine Ol.p (ixn (ix := b) sl_L_api_Block (Som.slc hf.blocks (by omega))) ?_
      refine Ol.p (fdp fd_api_Block_1) ?_
      refine Ol.p (lds (es := x.term.cells) ag_api_Term hf.blocks rfl (tm_slc hx)) ?_
      refine Ol.x (sp_call (vs := [x.term.val]) (R := NewL 3 1 to.length (ints to)) en_ref03_To (fun M w' hh => hto ▸ ref03_To_ct (t := x.term))) ?_
      rintro _ _ ⟨_, rfl, A127, c127, rfl, rfl⟩
      refine Ol.p ass ?_
      refine Ol.nil ?_
      refine Cd.seq ?_
      refine Cd.region ?_
      refine Ol.p asi ?_
      refine Ol.nil ?_
      refine Cd.block ?_   -- 10
      refine Cd.loop (fun m σ L => ∃ j U, m = to.length - j ∧ j ≤ to.length ∧ U = passM (bareP f v) f.terms ((edgesTo f.terms b).length + j) S ∧ U b = T b ∧ Has σ [(1, .int .i64 v), (2, .pointer (some ⟨g2, 0, none⟩)), (5, .slice (some ⟨gs, 0, none⟩) f.blocks.length f.blocks.length), (7, .int .i64 r), (8, .int .i64 b), (9, .bool bt), (15, .slice A127 to.length c127), (16, .int .i64 j)] ∧ [row (.slice A127 to.length c127) 3 1 to.length (ints to), row (.slice (some ⟨gs, 0, none⟩) f.blocks.length f.blocks.length) 4 1 f.blocks.length (boolsL f.blocks.length U), blk g2 (.cells f.cells.toArray 43)] = L) (n := to.length) ⟨0, T, rfl, Nat.zero_le _, by rw [hT]; rfl, rfl, ⟨rfl, rfl, rfl, rfl, rfl, rfl, rfl, rfl, trivial⟩, rfl⟩ ?_
      rintro _ σ L ⟨j, U, rfl, hj, hU, hUb, hs, rfl⟩
      refine Cd.has hs ?_
      clear hs
      refine Cd.seq ?_
      refine Cd.seq ?_
      refine Cd.region ?_
      refine Ol.p mvi ?_
      refine Ol.p mvs ?_
      refine Ol.p (lens sl_L_int) ?_
      refine Ol.p lsi ?_
      refine Ol.nil ?_
      refine Cd.cond rfl (fun h8 => ?_) (fun h8 => ?_)   -- $131
      · have hlt8 := lt_of h8
        obtain ⟨n, hn⟩ : ∃ n, to[j]? = some n := ⟨_, List.getElem?_eq_getElem hlt8⟩
        have hnv : (ints to)[j * 1]? = some (.int .i64 n) := ints_at1 hn
        have hed := toL_edge hx (hto ▸ hn)
        have hnr := (closed_len hc).2.2 _ (List.mem_of_getElem? hed)
        obtain ⟨q, hq⟩ : ∃ q : Nat, n = (q : Int) := ⟨n.toNat, by have := hnr.1; simp only at this; omega⟩
        have hql : q < f.blocks.length := by have := hnr.2; simp only at this; omega
        have hup : passM (bareP f v) f.terms ((edgesTo f.terms b).length + (j + 1)) S = fun i => if i = q then U q || bt else U i := by
          rw [← Nat.add_assoc, passM_succ hed, ← hU]
          funext i
          unfold upE orB
          show (if i = (n).toNat then U i || (U ((b : Int).toNat) && bareP f v ((b : Int).toNat)) else U i) = _
          rw [hq, Int.toNat_natCast, Int.toNat_natCast, hUb, ← hbt]
          by_cases h : i = q
          · rw [if_pos h, if_pos h, h]
          · rw [if_neg h, if_neg h]
        have hUb2 : passM (bareP f v) f.terms ((edgesTo f.terms b).length + (j + 1)) S b = T b := by
          rw [hup]
          show (if b = q then U q || bt else U b) = T b
          by_cases h : b = q
          · rw [if_pos h, ← h, hUb, hbt]
            cases T b <;> simp
          · rw [if_neg h, hUb]
        have hUq : (boolsL f.blocks.length U)[q * 1]? = some (.bool (U q)) := boolsL_at hql
        refine Cd.skip ?_
        refine Cd.seq ?_
        refine Cd.block ?_   -- 11
        cases q12 : U q with
        | true =>
          rw [q12] at hUq
          refine Cd.draw mixed 15 (fun _ => none) (fun _ => []) (by kernel_rfl) (fun _ _ h => by cases h) (fun u hu => ?_)
          refine Wk.p mvs ?_
          refine Wk.p mvs ?_
          refine Wk.p mvi ?_
          refine Wk.p (ixn (ix := j) sl_L_int (Som.row (i := 0) rfl (by omega))) ?_
          refine Wk.p (ld (v := .int .i64 n) one_int (Rd.row (i := 0) rfl hnv)) ?_
          refine Wk.p mvs ?_
          refine Wk.p mvs ?_
          refine Wk.p mvi ?_
          refine Wk.p (ixn (ix := j) sl_L_int (Som.row (i := 0) rfl (by omega))) ?_
          refine Wk.p (ld (v := .int .i64 n) one_int (Rd.row (i := 0) rfl hnv)) ?_
          refine Wk.p (ixn (ix := q) sl_L_bool (Som.row (i := 1) rfl (by omega)) (hy := congrArg (Value.int .i64) hq)) ?_
          refine Wk.p (ld (v := .bool true) one_bool (Rd.row (i := 1) rfl hUq)) ?_
          refine Wk.p mvb ?_
          refine Wk.gn rfl ?_
          refine Wk.p (pkTb rfl) ?_
          refine Wk.nil ?_
          refine Ol.p (ixn (ix := q) sl_L_bool (Som.row (i := 1) rfl (by omega)) (hy := congrArg (Value.int .i64) hq)) ?_
          refine Ol.s (str (i := 1) (k := q * 1) (v := .bool true) sz_bool rfl rfl rfl (by rw [boolsL_len]; omega) rfl) ?_
          refine Ol.nil ?_
          refine Cd.region ?_
          refine Ol.p mvi ?_
          refine Ol.p addi ?_
          refine Ol.p asi ?_
          refine Ol.nil ?_
          refine ⟨to.length - (j + 1), by omega, j + 1, _, rfl, by omega, rfl, hUb2, ⟨rfl, rfl, rfl, rfl, rfl, rfl, rfl, rfl, trivial⟩, ?_⟩
          rw [hup, ← boolsL_put, q12, Bool.true_or, Nat.mul_one]; rfl
        | false =>
          rw [q12] at hUq
          refine Cd.draw mixed 15 (fun _ => none) (fun _ => []) (by kernel_rfl) (fun _ _ h => by cases h) (fun u hu => ?_)
          refine Wk.p mvs ?_
          refine Wk.p mvs ?_
          refine Wk.p mvi ?_
          refine Wk.p (ixn (ix := j) sl_L_int (Som.row (i := 0) rfl (by omega))) ?_
          refine Wk.p (ld (v := .int .i64 n) one_int (Rd.row (i := 0) rfl hnv)) ?_
          refine Wk.p mvs ?_
          refine Wk.p mvs ?_
          refine Wk.p mvi ?_
          refine Wk.p (ixn (ix := j) sl_L_int (Som.row (i := 0) rfl (by omega))) ?_
          refine Wk.p (ld (v := .int .i64 n) one_int (Rd.row (i := 0) rfl hnv)) ?_
          refine Wk.p (ixn (ix := q) sl_L_bool (Som.row (i := 1) rfl (by omega)) (hy := congrArg (Value.int .i64) hq)) ?_
          refine Wk.p (ld (v := .bool false) one_bool (Rd.row (i := 1) rfl hUq)) ?_
          refine Wk.p mvb ?_
          refine Wk.gp rfl mvb ?_
          refine Wk.p (pkFb rfl) ?_
          refine Wk.nil ?_
          refine Ol.p (ixn (ix := q) sl_L_bool (Som.row (i := 1) rfl (by omega)) (hy := congrArg (Value.int .i64) hq)) ?_
          refine Ol.s (str (i := 1) (k := q * 1) (v := .bool bt) sz_bool rfl rfl rfl (by rw [boolsL_len]; omega) rfl) ?_
          refine Ol.nil ?_
          refine Cd.region ?_
          refine Ol.p mvi ?_
          refine Ol.p addi ?_
          refine Ol.p asi ?_
          refine Ol.nil ?_
          refine ⟨to.length - (j + 1), by omega, j + 1, _, rfl, by omega, rfl, hUb2, ⟨rfl, rfl, rfl, rfl, rfl, rfl, rfl, rfl, trivial⟩, ?_⟩
          rw [hup, ← boolsL_put, q12, Bool.false_or, Nat.mul_one]; rfl
      have hge8 := ge_of h8
      have hje : j = to.length := by omega
      rw [hU, hje, hto, ← edgesTo_next hx]
      refine Cd.exit (id := 10) ?_
      refine Cd.keep (.sub (.cons _ (List.Sublist.refl _))) ?_
      refine Cd.region ?_
      refine Ol.p mvi ?_
      refine Ol.p addi ?_
      refine Ol.p asi ?_
      refine Ol.nil ?_
      refine ⟨f.blocks.length - (b + 1), by omega, b + 1, rfl, by omega, ?_, ⟨rfl, rfl, rfl, rfl, rfl, trivial⟩, rfl⟩
      intro b' y hb' hy hSb
      rcases Nat.lt_or_ge b' b with h9 | h9
      · exact hbs b' y h9 hy hSb
      · have e9 : b' = b := by omega
        subst e9
        rw [hx] at hy
        rw [← Option.some.inj hy]
        exact hnone (by rw [hT]; exact passM_sub hSb _)
    have hge2 := ge_of h2
    have hbe : b = f.blocks.length := by omega
    have hpe : passM (bareP f v) f.terms (edgesTo f.terms b).length S = iterF F (r + 1) (openB f v) := by
      rw [hbe, ← htl]
      show passA (bareP f v) f.terms S = F (iterF F r (openB f v))
      rw [hS, hF]
    rw [hpe]
    refine Cd.exit (id := 4) ?_
    refine Cd.region ?_
    refine Ol.p mvi ?_
    refine Ol.p addi ?_
    refine Ol.p asi ?_
    refine Ol.nil ?_
    refine ⟨f.blocks.length - (r + 1), by omega, r + 1, rfl, by omega, fun _ b' y hy hSb => ?_, ⟨rfl, rfl, rfl, rfl, trivial⟩, rfl⟩
    refine hbs b' y (by have := (List.getElem?_eq_some_iff.1 hy).1; omega) hy ?_
    rw [hS]
    exact hSb
  have hge := ge_of h
  have hre : r = f.blocks.length := by omega
  have hno : lacksB f v = false := by
    cases hl : lacksB f v with
    | false => rfl
    | true =>
      obtain ⟨b, x, h1, h2, h3⟩ := lacksB_iff.1 hl
      have := hrec (by omega) b x h1 (by
        have := open_full hc hv hp h3
        rw [htl] at this
        rw [hF, hre]
        exact this)
      rw [this] at h2
      cases h2
  refine Cd.exit (id := 2) ?_
  refine Cd.seq ?_
  refine Cd.region ?_
  refine Ol.p asb ?_
  refine Ol.nil ?_
  exact Cd.ret ⟨.bool false, ret1 rfl rfl, [], Keep.nil, by rw [hno], rfl⟩
end
end Go.Proofs.Ytcojedoejpcolaa

/- Lists of resources told apart by counting. -/
namespace Go.Proofs.Ytcojedoejpcolaa
theorem perm_count {α : Type} {l l' : List α} (h : ∀ (_ : DecidableEq α) (x : α), l.count x = l'.count x) : l.Perm l' := by
  haveI : DecidableEq α := fun a b => Classical.propDecidable (a = b)
  exact List.perm_iff_count.2 fun x => h _ x
theorem keep_count {L L' : List Res} (D : List Res) (h : ∀ (_ : DecidableEq Res) (x : Res), L.count x = (L' ++ D).count x) : Keep L L' := ⟨D, perm_count h⟩
end Go.Proofs.Ytcojedoejpcolaa

/- The package ir: a function's variables, its size, walked. -/
namespace Go.Proofs.Ytcojedoejpcolaa
set_option linter.unusedVariables false
open Go Go.RowKit
set_option maxRecDepth 100000

/-- What is noted of an instruction, of a block, of a function. -/
def noteI (i : RIns) : List Int := readsL i ++ [defI i]
def noteB (b : RBlk) : List Int := b.ins.flatMap noteI ++ needsL b.term
def noteF (f : RFun) : List Int := f.params ++ f.blocks.flatMap noteB
def noS : VS := fun _ => false
theorem putsV_app (S : VS) (a b : List Int) : putsV S (a ++ b) true = putsV (putsV S a true) b true := by
  unfold putsV; rw [List.foldl_append]
theorem putsV_snoc (S : VS) (a : List Int) (n : Int) : putsV S (a ++ [n]) true = putV (putsV S a true) n.toNat true := by
  rw [putsV_app]; rfl
theorem putsV_iff {l : List Int} {S : VS} {v : Nat} : putsV S l true v = true ↔ S v = true ∨ ∃ n ∈ l, n.toNat = v := by
  induction l generalizing S with
  | nil => simp [putsV]
  | cons n l ih =>
    show putsV (putV S n.toNat true) l true v = true ↔ _
    rw [ih]
    have : putV S n.toNat true v = true ↔ S v = true ∨ n.toNat = v := by
      unfold putV
      by_cases e : v = n.toNat
      · rw [if_pos e]; simp [e]
      · rw [if_neg e]
        exact ⟨.inl, fun h => h.elim id fun h => absurd h.symm e⟩
    rw [this]
    simp only [List.mem_cons, exists_eq_or_imp]
    exact or_assoc
def varsTo (S : VS) (k : Nat) : List Nat := (List.range' 1 k).filter S
theorem varsTo_succ (S : VS) (k : Nat) : varsTo S (k + 1) = varsTo S k ++ (if S (k + 1) then [k + 1] else []) := by
  unfold varsTo
  rw [List.range'_concat, List.filter_append]
  congr 1
  rw [Nat.one_mul, Nat.add_comm 1 k]
  cases h : S (k + 1) <;> simp [h]
theorem varsTo_len (S : VS) (k : Nat) : (varsTo S k).length ≤ k := by
  unfold varsTo
  exact Nat.le_trans (List.length_filter_le _ _) (by simp)
def okF (f : RFun) : Bool := !longF f && wholeF f
def varsF (f : RFun) : List Nat := if okF f then varsTo (putsV noS (noteF f) true) 200 else []
def sizeF (f : RFun) : Nat := if okF f then (f.blocks.map fun b => b.ins.length + 1).sum else 0
theorem mem_varsF {f : RFun} {v : Nat} : v ∈ varsF f ↔ okF f = true ∧ (1 ≤ v ∧ v ≤ 200) ∧ ∃ n ∈ noteF f, n.toNat = v := by
  unfold varsF
  cases h : okF f with
  | false => simp
  | true =>
    rw [if_pos rfl]
    unfold varsTo
    rw [List.mem_filter, putsV_iff, List.mem_range'_1]
    simp only [noS, Bool.false_eq_true, false_or, true_and]
    exact ⟨fun ⟨h1, h2⟩ => ⟨⟨h1.1, by omega⟩, h2⟩, fun ⟨h1, h2⟩ => ⟨⟨h1.1, by omega⟩, h2⟩⟩
theorem ok_parts {f : RFun} (h : okF f = true) : longF f = false ∧ wholeF f = true := by
  unfold okF at h
  rw [Bool.and_eq_true] at h
  exact ⟨by simpa using h.1, h.2⟩
theorem whole_params {f : RFun} (h : wholeF f = true) : ∀ p ∈ f.params, 1 ≤ p ∧ p ≤ 200 := fun p hp => by
  rw [whole_split, Bool.and_eq_true, Bool.and_eq_true] at h
  have := List.all_eq_true.1 h.1.1 p hp
  unfold varB at this
  simpa using this
theorem noteI_range {i : RIns} {n : Int} (h : n ∈ noteI i) : 0 ≤ n ∧ n ≤ 200 := by
  unfold noteI at h
  rcases List.mem_append.1 h with h | h
  · have := readsL_mem h; omega
  · have e : n = defI i := by simpa using h
    rw [e]; exact defI_range i
theorem RdS.held {w0 : World} {B s n : Nat} {L : List Res} {A : Option Addr} {xs : List Value} {M : List Res} {w : World} (h : RdS w0 B L s A n xs) (hh : Hp w0 B (M ++ L) w) : Reads w w.heap.size s A n xs := h M w hh
section
/-- Numbers are noted. -/
theorem ir_Vars_1_ct {w0 : World} {B g c : Nat} {A : Option Addr} {l : List Int} {S : VS} {R : List Res} (hl : RdS w0 B R 1 A l.length (ints l)) (hlen : l.length < 2 ^ 60) (hr : ∀ n ∈ l, 0 ≤ n ∧ n ≤ 200) :
    Cm Try.prog 87 #[.slice A l.length c, .pointer (some ⟨g, 0, none⟩)] w0 B (blk g (.cells (encV S) 128) :: R) (fun v L => v = .tuple #[] ∧ L = blk g (.cells (encV (putsV S l true)) 128) :: R) := by
  refine Cm.mk Try.func87 rfl rfl fun M => ?_
  refine Cd.seq ?_
  refine Cd.region ?_
  refine Ol.p mvs ?_
  refine Ol.p (lens sl_L_int) ?_
  refine Ol.p mvi ?_
  refine Ol.nil ?_
  refine Cd.block ?_
  refine Cd.loop (fun m σ L => ∃ k, m = l.length - k ∧ k ≤ l.length ∧ Has σ [(1, .pointer (some ⟨g, 0, none⟩)), (5, .slice A l.length c), (6, .int .i64 l.length), (7, .int .i64 k)] ∧ blk g (.cells (encV (putsV S (l.take k) true)) 128) :: R = L) (n := l.length) ⟨0, rfl, Nat.zero_le _, ⟨rfl, rfl, rfl, rfl, trivial⟩, rfl⟩ ?_
  rintro _ σ L ⟨k, rfl, hk, hs, rfl⟩
  refine Cd.has hs ?_
  refine Cd.seq ?_
  refine Cd.region ?_
  refine Ol.p lsi ?_
  refine Ol.nil ?_
  refine Cd.seq ?_
  refine Cd.cond rfl (fun h => ?_) (fun h => ?_)
  · have hlt : k < l.length := by simpa using h
    obtain ⟨n, hn⟩ : ∃ n, l[k]? = some n := ⟨_, List.getElem?_eq_getElem hlt⟩
    have hnr := hr n (List.mem_of_getElem? hn)
    obtain ⟨m, rfl⟩ : ∃ m : Nat, n = (m : Int) := ⟨n.toNat, by omega⟩
    refine Cd.skip ?_
    refine Cd.seq ?_
    refine Cd.block ?_
    refine Cd.seq ?_
    refine Cd.region ?_
    refine Ol.p (ixn1 (ix := k) sl_L_int (Som.rds hl.more (by omega))) ?_
    refine Ol.p (ld one_int (Rd.rds hl.more (ints_at hn))) ?_
    refine Ol.p asi ?_
    refine Ol.nil ?_
    refine Cd.region ?_
    refine Ol.p mvi ?_
    refine Ol.p (ixl1 (ix := m) ar_ir_set) ?_
    refine Ol.s (sto (v := .bool true) (i := 0) (k := m) (.inr sz_bool) rfl rfl rfl (by rw [encV_size]; omega) rfl) ?_
    refine Ol.nil ?_
    refine Cd.region ?_
    refine Ol.p addi ?_
    refine Ol.p mvi ?_
    refine Ol.nil ?_
    refine ⟨l.length - (k + 1), by omega, k + 1, rfl, by omega, ⟨rfl, rfl, rfl, rfl, trivial⟩, ?_⟩
    rw [take_snoc_ hn, putsV_snoc, ← encV_set]
    rfl
  have hge : k = l.length := by
    have : ¬ (k : Int) < l.length := by simpa using h
    omega
  subst hge
  refine Cd.exit (id := 0) ⟨_, ret0 rfl, _, .all, rfl, by rw [List.take_of_length_le (Nat.le_refl _)]⟩
end
section
set_option maxHeartbeats 4000000 in
theorem ir_Vars_ct {w : World} {f : RFun} (hf : FunAt w w.heap.size f) (hfit : Fit f) : Ct Try.prog 36 #[f.val] w (NewL 3 1 (varsF f).length (intsN (varsF f))) := by
  have hbl := hfit.blen
  have hpl := hfit.plen
  refine Ct.mk Try.func36 rfl rfl ?_
  refine Cd.seq ?_
  refine Cd.region ?_
  refine Ol.x bxg ?_
  rintro _ _ ⟨g1, rfl, rfl⟩
  refine Ol.p ass ?_
  refine Ol.nil ?_
  refine Cd.seq ?_
  cases hok : okF f with
  | false =>
    have hv : varsF f = [] := by unfold varsF; rw [hok]; rfl
    rw [hv]
    refine Cd.mid (fun σ' L' => Has σ' [(16, .bool true)] ∧ [blk g1 (.cells f.cells.toArray 43)] = L') ?_ ?_
    · cases hl : longF f with
      | true =>
        refine Cd.region ?_
        refine Ol.p (ldw ag_api_Func (i := 0) rfl rfl) ?_
        refine Ol.s (cl en_ir_long (fun M w' hh => ir_long_ct (hf.now hh) hfit)) ?_
        refine Ol.p mvb ?_
        refine Ol.gn hl ?_
        refine Ol.gn hl ?_
        refine Ol.gn hl ?_
        refine Ol.p (pkTb hl) ?_
        refine Ol.nil ?_
        exact ⟨⟨rfl, trivial⟩, rfl⟩
      | false =>
        have hw : wholeF f = false := by unfold okF at hok; rw [hl] at hok; simpa using hok
        refine Cd.region ?_
        refine Ol.p (ldw ag_api_Func (i := 0) rfl rfl) ?_
        refine Ol.s (cl en_ir_long (fun M w' hh => ir_long_ct (hf.now hh) hfit)) ?_
        refine Ol.p mvb ?_
        refine Ol.gp hl (ldw ag_api_Func (i := 0) rfl rfl) ?_
        refine Ol.gs hl (cl en_ir_whole (fun M w' hh => ir_whole_ct (hf.now hh) hfit)) ?_
        refine Ol.gp hl noti ?_
        refine Ol.p (pkFb hl) ?_
        refine Ol.nil ?_
        exact ⟨⟨by show Value.bool _ = _; rw [hw]; rfl, trivial⟩, rfl⟩
    rintro σ' _ ⟨hs', rfl⟩
    refine Cd.has hs' ?_
    refine Cd.cond rfl (fun h => ?_) (fun h => by cases h)
    refine Cd.seq ?_
    refine Cd.region ?_
    refine Ol.p ass ?_
    refine Ol.nil ?_
    exact Cd.nr 3 1 (Cd.ret ⟨_, ret1 rfl rfl, _, .sub (.cons_cons _ (.cons _ .slnil)), none, 0, rfl, rfl⟩)
  | true =>
  obtain ⟨hl, hw⟩ := ok_parts hok
  obtain ⟨h0, h200, h8, h64⟩ := long_parts hl
  have hwb : (!wholeF f) = false := by rw [hw]; rfl
  have hprm : ∀ n ∈ f.params, 0 ≤ n ∧ n ≤ 200 := fun n hn => by have := whole_params hw n hn; omega
  have hv : varsF f = varsTo (putsV noS (noteF f) true) 200 := by unfold varsF; rw [hok]; rfl
  rw [hv]
  refine Cd.seq ?_
  refine Cd.region ?_
  refine Ol.p (ldw ag_api_Func (i := 0) rfl rfl) ?_
  refine Ol.s (cl en_ir_long (fun M w' hh => ir_long_ct (hf.now hh) hfit)) ?_
  refine Ol.p mvb ?_
  refine Ol.gp hl (ldw ag_api_Func (i := 0) rfl rfl) ?_
  refine Ol.gs hl (cl en_ir_whole (fun M w' hh => ir_whole_ct (hf.now hh) hfit)) ?_
  refine Ol.gp hl noti ?_
  refine Ol.p (pkFb hl) ?_
  refine Ol.nil ?_
  refine Cd.cond rfl (fun h => by rw [hwb] at h; cases h) (fun h => ?_)
  refine Cd.skip ?_
  refine Cd.seq ?_
  refine Cd.region ?_
  refine Ol.x (alc zr_ir_set) ?_
  rintro _ _ ⟨g3, rfl, rfl⟩
  refine Ol.nil ?_
  refine Cd.seq ?_
  refine Cd.region ?_
  refine Ol.p mkf ?_
  refine Ol.p asf ?_
  refine Ol.nil ?_
  have hz : (Array.replicate 201 (Value.bool false)) = encV noS := zeroV
  have hnote : ∀ {σ : Env} {L R L2 : List Res} {d ty pos af gd} {x y : Operand} {ts : Array TypeId} {A : Option Addr} {c : Nat} {l : List Int} {S : VS}, L.Perm ((blk g3 (.cells (encV S) 128) :: R) ++ L2) → RdS w w.heap.size R 1 A l.length (ints l) → l.length < 2 ^ 60 → (∀ n ∈ l, 0 ≤ n ∧ n ≤ 200) → ev σ x = .func (.func 87) #[] #[.pointer (some ⟨g3, 0, none⟩)] → [y].map (ev σ) = [.slice A l.length c] →
      Sp Try.prog w w.heap.size ⟨d, .call { callee := .value x, args := [y].toArray, argTypes := ts }, ty, pos, af, gd⟩ σ L (Adds (fun v T => v = .tuple #[] ∧ T = blk g3 (.cells (encV (putsV S l true)) 128) :: R) L2) := by
    intro σ L R L2 d ty pos af gd x y ts A c l S h0 h1 h2 h3 h4 h5
    exact sp_callvw (fst := #[]) (vs := [Value.slice A l.length c]) (cap := #[.pointer (some ⟨g3, 0, none⟩)]) en_ir_Vars_1 (ir_Vars_1_ct (c := c) h1 h2 h3) h0 h4 h5 (by simp)
  refine Cd.seq ?_
  refine Cd.region ?_
  refine Ol.p mvf ?_
  refine Ol.p (fdl fd_api_Func_0) ?_
  refine Ol.p (ld one_L_int (Rd.blk (i := 1) rfl rfl)) ?_
  refine Ol.x (hnote (S := noS) (l := f.params) (R := []) (L2 := [blk g1 (.cells f.cells.toArray 43)]) (c := f.pC) (by rw [← hz]; exact .refl _) (RdS.slc hf.params) (by omega) hprm rfl rfl) ?_
  rintro _ _ ⟨_, rfl, rfl, rfl⟩
  refine Ol.nil ?_
  refine Cd.mid (fun σ' L' => Has σ' [(2, .slice none 0 0), (3, .pointer (some ⟨g3, 0, none⟩))] ∧ [blk g3 (.cells (encV (putsV noS (noteF f) true)) 128), blk g1 (.cells f.cells.toArray 43)] = L') ?_ ?_
  · refine Cd.seq ?_
    refine Cd.region ?_
    refine Ol.p (fdl fd_api_Func_1) ?_
    refine Ol.p (ld one_L_api_Block (Rd.blk (i := 1) rfl rfl)) ?_
    refine Ol.p (lens sl_L_api_Block) ?_
    refine Ol.p mvi ?_
    refine Ol.nil ?_
    refine Cd.block ?_   -- 0
    refine Cd.loop (fun m σ L => ∃ k, m = f.blocks.length - k ∧ k ≤ f.blocks.length ∧ Has σ [(2, .slice none 0 0), (3, .pointer (some ⟨g3, 0, none⟩)), (4, .func (.func 87) #[] #[.pointer (some ⟨g3, 0, none⟩)]), (23, .slice f.bA f.blocks.length f.bC), (24, .int .i64 f.blocks.length), (25, .int .i64 k)] ∧
      [blk g3 (.cells (encV (putsV noS (f.params ++ (f.blocks.take k).flatMap noteB) true)) 128), blk g1 (.cells f.cells.toArray 43)] = L) (n := f.blocks.length) ⟨0, rfl, Nat.zero_le _, ⟨rfl, rfl, rfl, rfl, rfl, rfl, trivial⟩, by simp⟩ ?_
    rintro _ σ L ⟨k, rfl, hk, hs, rfl⟩
    refine Cd.has hs ?_
    clear hs
    refine Cd.seq ?_
    refine Cd.region ?_
    refine Ol.p lsi ?_
    refine Ol.nil ?_
    refine Cd.seq ?_
    refine Cd.cond rfl (fun h => ?_) (fun h => ?_)   -- $26
    · have hlt : k < f.blocks.length := by
        simp only [decide_eq_true_eq] at h; omega
      obtain ⟨x, hx⟩ : ∃ x, f.blocks[k]? = some x := ⟨_, List.getElem?_eq_getElem hlt⟩
      have hxm := List.mem_of_getElem? hx
      have hxl := h64 x hxm
      have hnl := needsL_len x.term
      refine Cd.skip ?_
      refine Cd.seq ?_
      refine Cd.block ?_   -- 1
      refine Cd.seq ?_
      refine Cd.region ?_
      refine Ol.p (ixn (ix := k) sl_L_api_Block (Som.slc hf.blocks (by omega))) ?_
      refine Ol.p (lds (es := x.cells) ag_api_Block hf.blocks x.len (fun j u hu => blk_cell hx hu)) ?_
      refine Ol.x (alc zr_api_Block) ?_
      rintro _ _ ⟨g6, rfl, rfl⟩
      refine Ol.s (stw (vs := x.cells.toArray) sz_api_Block rfl x.one (i := 0) rfl rfl) ?_
      refine Ol.nil ?_
      obtain ⟨S0, hS0⟩ : ∃ S0, S0 = putsV noS (f.params ++ (f.blocks.take k).flatMap noteB) true := ⟨_, rfl⟩
      rw [← hS0]
      refine Cd.mid (fun σ' L' => Has σ' [(2, .slice none 0 0), (3, .pointer (some ⟨g3, 0, none⟩)), (4, .func (.func 87) #[] #[.pointer (some ⟨g3, 0, none⟩)]), (6, .pointer (some ⟨g6, 0, none⟩)), (23, .slice f.bA f.blocks.length f.bC), (24, .int .i64 f.blocks.length), (25, .int .i64 k)] ∧
        [blk g6 (.cells x.cells.toArray 50), blk g3 (.cells (encV (putsV S0 (x.ins.flatMap noteI) true)) 128), blk g1 (.cells f.cells.toArray 43)] = L') ?_ ?_
      · refine Cd.seq ?_
        refine Cd.region ?_
        refine Ol.p (fdl fd_api_Block_0) ?_
        refine Ol.p (ld one_L_api_Ins (Rd.blk (i := 0) rfl rfl)) ?_
        refine Ol.p (lens sl_L_api_Ins) ?_
        refine Ol.p mvi ?_
        refine Ol.nil ?_
        refine Cd.block ?_   -- 2
        refine Cd.loop (fun m σ L => ∃ j, m = x.ins.length - j ∧ j ≤ x.ins.length ∧ Has σ [(2, .slice none 0 0), (3, .pointer (some ⟨g3, 0, none⟩)), (4, .func (.func 87) #[] #[.pointer (some ⟨g3, 0, none⟩)]), (6, .pointer (some ⟨g6, 0, none⟩)), (23, .slice f.bA f.blocks.length f.bC), (24, .int .i64 f.blocks.length), (25, .int .i64 k), (30, .slice x.iA x.ins.length x.iC), (31, .int .i64 x.ins.length), (32, .int .i64 j)] ∧
          [blk g6 (.cells x.cells.toArray 50), blk g3 (.cells (encV (putsV S0 ((x.ins.take j).flatMap noteI) true)) 128), blk g1 (.cells f.cells.toArray 43)] = L) (n := x.ins.length) ⟨0, rfl, Nat.zero_le _, ⟨rfl, rfl, rfl, rfl, rfl, rfl, rfl, rfl, rfl, rfl, trivial⟩, rfl⟩ ?_
        rintro _ σ L ⟨j, rfl, hj, hs, rfl⟩
        refine Cd.has hs ?_
        clear hs
        refine Cd.seq ?_
        refine Cd.region ?_
        refine Ol.p lsi ?_
        refine Ol.nil ?_
        refine Cd.seq ?_
        refine Cd.cond rfl (fun h => ?_) (fun h => ?_)   -- $33
        · have hjl : j < x.ins.length := by
            simp only [decide_eq_true_eq] at h; omega
          obtain ⟨i, hi⟩ : ∃ i, x.ins[j]? = some i := ⟨_, List.getElem?_eq_getElem hjl⟩
          have him := List.mem_of_getElem? hi
          have hrl := readsL_len i
          have hal := hfit.alen x hxm i him
          have hia : ∀ {M : List Res} {w' : World}, Hp w w.heap.size M w' → InsAt w' i := fun hh => ⟨(hf.args x hxm i him).now hh, hal, hfit.insr x hxm i him i.callee (by simp)⟩
          have hnl2 : (noteI i).length = (readsL i).length + 1 := by simp [noteI]
          have hni : ints (readsL i) ++ [Value.int .i64 (defI i)] = ints (noteI i) := by simp [ints, noteI]
          refine Cd.skip ?_
          refine Cd.seq ?_
          refine Cd.block ?_   -- 3
          refine Cd.seq ?_
          refine Cd.region ?_
          refine Ol.p (ixn (ix := j) sl_L_api_Ins (Som.slc (hf.ins x hxm) (by omega))) ?_
          refine Ol.p (lds (es := i.cells) ag_api_Ins (hf.ins x hxm) i.len (fun j u hu => ins_cell hi hu)) ?_
          refine Ol.x (alc zr_api_Ins) ?_
          rintro _ _ ⟨g8, rfl, rfl⟩
          refine Ol.s (stw (vs := i.cells.toArray) sz_api_Ins rfl i.one (i := 0) rfl rfl) ?_
          refine Ol.nil ?_
          refine Cd.drawT (L0 := _) mixed 7 (fun opNo => match opNo with | 2 => some (NewL 3 1 (readsL i).length (ints (readsL i))) | 4 => some (Is (.int .i64 (defI i))) | 5 => some (NewSv 3 1 1 1 [.int .i64 (defI i)]) | 6 => some (NewL 3 1 (noteI i).length (ints (noteI i))) | _ => none) (fun opNo => match opNo with | 6 => [2, 5] | _ => []) (fun opNo => match opNo with | 6 => some 2 | _ => none) [] (fun _ => []) (by kernel_rfl) (.refl _) (by intro c hc; cases hc) (by intro q V h; split at h <;> cases h; exact ⟨_, _, none, 0, rfl, rfl⟩; exact ⟨_, [], rfl, rfl⟩; exact ⟨_, _, 0, rfl, rfl⟩; exact ⟨_, _, none, 0, rfl, rfl⟩) (fun u hu hu0 => ?_)
          refine WkT.p mvf ?_
          refine WkT.p (ldw ag_api_Ins (i := 0) rfl rfl) ?_
          refine WkT.xn (V := NewL 3 1 (readsL i).length (ints (readsL i))) (l := []) (l2 := []) hu rfl rfl rfl (by rw [needs_none]; exact (sp_call en_ir_Reads (fun M w' hh => ir_Reads_ct (hia hh)))) ?_
          rintro _ _ hu2 ⟨A38, c38, rfl, rfl⟩
          refine WkT.p (ldw ag_api_Ins (i := 0) rfl rfl) ?_
          refine WkT.xn (V := Is (.int .i64 (defI i))) (l := []) (l2 := []) hu rfl rfl rfl (by rw [needs_none]; exact (sp_call en_ir_Defines (fun M w' hh => ir_Defines_ct (hia hh)))) ?_
          rintro _ _ hu4 ⟨rfl, rfl⟩
          refine WkT.xn (V := NewSv 3 1 1 1 [.int .i64 (defI i)]) (l := []) (l2 := []) hu rfl rfl rfl (by rw [needs_none]; exact (NewS.adds (bsv [.int .i64 (defI i)] sl_L_int zr_int (by simp [Value.cells])))) ?_
          rintro _ _ hu5 ⟨g41, rfl, rfl⟩
          refine WkT.xn (V := NewL 3 1 (noteI i).length (ints (noteI i))) (l := [2, 5]) (l2 := [5]) hu rfl rfl rfl (by rw [needs_cons hu2, needs_cons hu5, needs_none]; exact (by rw [hnl2, ← hni]; exact Grow.adds (apn (i := 0) (m := 1) sl_L_int zr_int rfl (by decide) rfl (Src.row (i := 1) rfl rfl) (by intro u hu; simp at hu; subst hu; rfl) (by unfold maxLen; omega) (by omega)))) ?_
          rintro _ _ hu6 ⟨A42, c42, rfl, rfl⟩
          refine WkT.nil ?_
          change Ol _ _ _ _ _ (needs u [6, 5, 4] _)
          rw [needs_cons hu6, needs_cons hu5, needs_cons hu4, needs_none]
          refine Ol.x (hnote (S := putsV S0 ((x.ins.take j).flatMap noteI) true) (l := noteI i) (R := [row (.slice A42 (noteI i).length c42) 3 1 (noteI i).length (ints (noteI i))]) (L2 := [row (.slice (some ⟨g41, 0, none⟩) 1 1) 3 1 1 [.int .i64 (defI i)], blk g8 (.cells i.cells.toArray 25), blk g6 (.cells x.cells.toArray 50), blk g1 (.cells f.cells.toArray 43)]) (perm_count fun _ x => by simp only [List.count_append, List.count_cons, List.count_nil, List.cons_append, List.nil_append]; omega) (RdS.row (i := 0) rfl) (by omega) (fun n hn => noteI_range hn) rfl rfl) ?_
          rintro _ _ ⟨_, rfl, rfl, rfl⟩
          refine Ol.keep (keep_count (L' := [blk g6 (.cells x.cells.toArray 50), blk g3 (.cells (encV (putsV (putsV S0 ((x.ins.take j).flatMap noteI) true) (noteI i) true)) 128), blk g1 (.cells f.cells.toArray 43)]) [row (.slice A42 (noteI i).length c42) 3 1 (noteI i).length (ints (noteI i)), row (.slice (some ⟨g41, 0, none⟩) 1 1) 3 1 1 [.int .i64 (defI i)], blk g8 (.cells i.cells.toArray 25)] fun _ x => by simp only [List.count_append, List.count_cons, List.count_nil, List.cons_append, List.nil_append]; omega) ?_
          refine Ol.nil ?_
          refine Cd.region ?_
          refine Ol.p addi ?_
          refine Ol.p mvi ?_
          refine Ol.nil ?_
          refine ⟨x.ins.length - (j + 1), by omega, j + 1, rfl, by omega, ⟨rfl, rfl, rfl, rfl, rfl, rfl, rfl, rfl, rfl, rfl, trivial⟩, ?_⟩
          rw [take_snoc_ hi, List.flatMap_append, putsV_app]
          simp
        have hje : j = x.ins.length := by
          simp only [decide_eq_false_iff_not] at h; omega
        refine Cd.exit (id := 2) ⟨⟨rfl, rfl, rfl, rfl, rfl, rfl, rfl, trivial⟩, ?_⟩
        rw [hje, List.take_of_length_le (Nat.le_refl _)]
      rintro σ' _ ⟨hs', rfl⟩
      refine Cd.has hs' ?_
      clear hs'
      refine Cd.region ?_
      refine Ol.p mvf ?_
      refine Ol.p (fdl fd_api_Block_1) ?_
      refine Ol.p (ldp (k := 0 + 1) (vs := x.term.cells.toArray) ag_api_Term (i := 0) rfl rfl (fun j u hu => by rw [Nat.zero_add, Nat.add_comm]; simpa [RBlk.cells] using hu)) ?_
      refine Ol.x (sp_call en_ir_Needs (fun M w' hh => ir_Needs_ct (t := x.term))) ?_
      rintro _ _ ⟨_, rfl, A48, c48, rfl, rfl⟩
      refine Ol.x (hnote (S := putsV S0 (x.ins.flatMap noteI) true) (l := needsL x.term) (R := [row (.slice A48 (needsL x.term).length c48) 3 1 (needsL x.term).length (ints (needsL x.term))]) (L2 := [blk g6 (.cells x.cells.toArray 50), blk g1 (.cells f.cells.toArray 43)]) (perm_count fun _ x => by simp only [List.count_append, List.count_cons, List.count_nil, List.cons_append, List.nil_append]; omega) (RdS.row (i := 0) rfl) (by omega) (fun n hn => by have := needsL_mem hn; omega) rfl rfl) ?_
      rintro _ _ ⟨_, rfl, rfl, rfl⟩
      refine Ol.keep (.sub (.cons_cons _ (.cons _ (.cons _ (List.Sublist.refl _))))) ?_
      refine Ol.nil ?_
      refine Cd.region ?_
      refine Ol.p addi ?_
      refine Ol.p mvi ?_
      refine Ol.nil ?_
      refine ⟨f.blocks.length - (k + 1), by omega, k + 1, rfl, by omega, ⟨rfl, rfl, rfl, rfl, rfl, rfl, trivial⟩, ?_⟩
      rw [take_snoc_ hx, List.flatMap_append, ← List.append_assoc, putsV_app, ← hS0, ← putsV_app]
      simp [noteB]
    have hke : k = f.blocks.length := by
      simp only [decide_eq_false_iff_not] at h; omega
    refine Cd.exit (id := 0) ⟨⟨rfl, rfl, trivial⟩, ?_⟩
    rw [hke, List.take_of_length_le (Nat.le_refl _)]
    rfl
  rintro σ' _ ⟨hs', rfl⟩
  refine Cd.has hs' ?_
  clear hs'
  obtain ⟨S, hS⟩ : ∃ S, S = putsV noS (noteF f) true := ⟨_, rfl⟩
  rw [← hS]
  refine Cd.nr 3 1 ?_
  refine Cd.mid (fun σ' L' => ∃ A c, Has σ' [(2, .slice A (varsTo S 200).length c)] ∧ row (.slice A (varsTo S 200).length c) 3 1 (varsTo S 200).length (intsN (varsTo S 200)) :: [blk g3 (.cells (encV S) 128), blk g1 (.cells f.cells.toArray 43)] = L') ?_ ?_
  · refine Cd.seq ?_
    refine Cd.region ?_
    refine Ol.p asi ?_
    refine Ol.nil ?_
    refine Cd.block ?_   -- 4
    refine Cd.loop (fun m σ L => ∃ k A c, m = 200 - k ∧ k ≤ 200 ∧ Has σ [(2, .slice A (varsTo S k).length c), (3, .pointer (some ⟨g3, 0, none⟩)), (9, .int .i64 ((k : Int) + 1))] ∧ row (.slice A (varsTo S k).length c) 3 1 (varsTo S k).length (intsN (varsTo S k)) :: [blk g3 (.cells (encV S) 128), blk g1 (.cells f.cells.toArray 43)] = L) (n := 200) ⟨0, none, 0, rfl, Nat.zero_le _, ⟨rfl, rfl, rfl, trivial⟩, rfl⟩ ?_
    rintro _ σ L ⟨k, A, c, rfl, hk, hs, rfl⟩
    have hvl := varsTo_len S k
    have ek : (k : Int) + 1 = ((k + 1 : Nat) : Int) := by omega
    rw [ek] at hs
    refine Cd.has hs ?_
    clear hs
    refine Cd.seq ?_
    refine Cd.seq ?_
    refine Cd.region ?_
    refine Ol.p mvi ?_
    refine Ol.p lsi ?_
    refine Ol.nil ?_
    refine Cd.cond rfl (fun h => ?_) (fun h => ?_)   -- $52
    · have hlt : k + 1 < 201 := by
        simp only [decide_eq_true_eq] at h; omega
      refine Cd.skip ?_
      refine Cd.seq ?_
      refine Cd.block ?_   -- 5
      refine Cd.seq ?_
      refine Cd.region ?_
      refine Ol.p mvi ?_
      refine Ol.p (ixl1 (ix := k + 1) ar_ir_set) ?_
      refine Ol.p (ld one_bool (Rd.blk (i := 1) rfl (encV_get (i := k + 1) (by omega)))) ?_
      refine Ol.nil ?_
      have hsucc := varsTo_succ S k
      refine Cd.cond rfl (fun h2 => ?_) (fun h2 => ?_)   -- $57
      · skip
        refine Cd.region ?_
        refine Ol.p mvs ?_
        refine Ol.p mvi ?_
        refine Ol.x (bsv [.int .i64 ((k + 1 : Nat) : Int)] sl_L_int zr_int (by simp [Value.cells])) ?_
        rintro _ _ ⟨g60, rfl, rfl⟩
        refine Ol.x (apn (i := 1) (m := 1) sl_L_int zr_int rfl (by decide) rfl (Src.row (i := 0) rfl rfl) (by intro u hu; simp at hu; subst hu; rfl) (by unfold maxLen; omega) (by omega)) ?_
        rintro _ _ ⟨A', c', rfl, rfl⟩
        refine Ol.p ass ?_
        refine Ol.keep (.sub (.cons _ (List.Sublist.refl _))) ?_
        refine Ol.nil ?_
        rw [if_pos h2] at hsucc
        have e1 : (varsTo S k).length + 1 = (varsTo S (k + 1)).length := by rw [hsucc]; simp
        have e2 : intsN (varsTo S k) ++ [Value.int .i64 ((k + 1 : Nat) : Int)] = intsN (varsTo S (k + 1)) := by rw [hsucc]; simp [intsN]
        rw [e1, e2]
        refine Cd.region ?_
        refine Ol.p mvi ?_
        refine Ol.p addi ?_
        refine Ol.p asi ?_
        refine Ol.nil ?_
        exact ⟨200 - (k + 1), by omega, k + 1, A', c', rfl, by omega, ⟨rfl, rfl, rfl, trivial⟩, rfl⟩
      rw [if_neg (by rw [h2]; simp), List.append_nil] at hsucc
      refine Cd.skip ?_
      rw [← hsucc]
      refine Cd.region ?_
      refine Ol.p mvi ?_
      refine Ol.p addi ?_
      refine Ol.p asi ?_
      refine Ol.nil ?_
      exact ⟨200 - (k + 1), by omega, k + 1, A, c, rfl, by omega, ⟨rfl, rfl, rfl, trivial⟩, rfl⟩
    have hke : k = 200 := by
      simp only [decide_eq_false_iff_not] at h; omega
    subst hke
    exact Cd.exit (id := 4) ⟨A, c, ⟨rfl, trivial⟩, rfl⟩
  rintro σ' _ ⟨A, c, hs', rfl⟩
  refine Cd.has hs' ?_
  refine Cd.seq ?_
  refine Cd.region ?_
  refine Ol.p mvs ?_
  refine Ol.p ass ?_
  refine Ol.nil ?_
  exact Cd.ret ⟨_, ret1 rfl rfl, _, .sub (.cons_cons _ (.cons _ (.cons _ .slnil))), A, c, rfl, rfl⟩
end
section
theorem sizeF_ok {f : RFun} (h : okF f = true) : sizeF f = (f.blocks.map fun b => b.ins.length + 1).sum := by unfold sizeF; rw [h]; rfl
def szTo (f : RFun) (k : Nat) : Nat := ((f.blocks.take k).map fun b => b.ins.length + 1).sum
theorem szTo_succ {f : RFun} {k : Nat} {x : RBlk} (h : f.blocks[k]? = some x) : szTo f (k + 1) = szTo f k + (x.ins.length + 1) := by
  unfold szTo
  rw [take_snoc_ h]
  simp
theorem szTo_le {f : RFun} (h64 : ∀ b ∈ f.blocks, b.ins.length ≤ 64) : ∀ k, szTo f k ≤ k * 65
  | 0 => by simp [szTo]
  | k + 1 => by
    cases hx : f.blocks[k]? with
    | none =>
      have h1 := szTo_le h64 k
      have hl : f.blocks.length ≤ k := by simpa using hx
      have : szTo f (k + 1) = szTo f k := by unfold szTo; rw [List.take_of_length_le hl, List.take_of_length_le (by omega)]
      omega
    | some x =>
      have h1 := szTo_le h64 k
      have := h64 x (List.mem_of_getElem? hx)
      rw [szTo_succ hx]; omega
set_option maxHeartbeats 2000000 in
theorem ir_Size_ct {w : World} {f : RFun} (hf : FunAt w w.heap.size f) (hfit : Fit f) : Ct Try.prog 38 #[f.val] w (Is (.int .i64 (sizeF f : Nat))) := by
  have hbl := hfit.blen
  refine Ct.mk Try.func38 rfl rfl ?_
  refine Cd.seq ?_
  refine Cd.region ?_
  refine Ol.x bxg ?_
  rintro _ _ ⟨g1, rfl, rfl⟩
  refine Ol.p asi ?_
  refine Ol.nil ?_
  refine Cd.seq ?_
  cases hok : okF f with
  | false =>
    have hv : sizeF f = 0 := by unfold sizeF; rw [hok]; rfl
    rw [hv]
    refine Cd.mid (fun σ' L' => Has σ' [(11, .bool true)] ∧ [blk g1 (.cells f.cells.toArray 43)] = L') ?_ ?_
    · cases hl : longF f with
      | true =>
        refine Cd.region ?_
        refine Ol.p (ldw ag_api_Func (i := 0) rfl rfl) ?_
        refine Ol.s (cl en_ir_long (fun M w' hh => ir_long_ct (hf.now hh) hfit)) ?_
        refine Ol.p mvb ?_
        refine Ol.gn hl ?_
        refine Ol.gn hl ?_
        refine Ol.gn hl ?_
        refine Ol.p (pkTb hl) ?_
        refine Ol.nil ?_
        exact ⟨⟨rfl, trivial⟩, rfl⟩
      | false =>
        have hw : wholeF f = false := by unfold okF at hok; rw [hl] at hok; simpa using hok
        refine Cd.region ?_
        refine Ol.p (ldw ag_api_Func (i := 0) rfl rfl) ?_
        refine Ol.s (cl en_ir_long (fun M w' hh => ir_long_ct (hf.now hh) hfit)) ?_
        refine Ol.p mvb ?_
        refine Ol.gp hl (ldw ag_api_Func (i := 0) rfl rfl) ?_
        refine Ol.gs hl (cl en_ir_whole (fun M w' hh => ir_whole_ct (hf.now hh) hfit)) ?_
        refine Ol.gp hl noti ?_
        refine Ol.p (pkFb hl) ?_
        refine Ol.nil ?_
        exact ⟨⟨by show Value.bool _ = _; rw [hw]; rfl, trivial⟩, rfl⟩
    rintro σ' _ ⟨hs', rfl⟩
    refine Cd.has hs' ?_
    refine Cd.cond rfl (fun h => ?_) (fun h => by cases h)
    refine Cd.seq ?_
    refine Cd.region ?_
    refine Ol.p asi ?_
    refine Ol.nil ?_
    exact Cd.ret ⟨.int .i64 _, ret1 rfl rfl, [], .nil, rfl, rfl⟩
  | true =>
  obtain ⟨hl, hw⟩ := ok_parts hok
  obtain ⟨h0, h200, h8, h64⟩ := long_parts hl
  have hwb : (!wholeF f) = false := by rw [hw]; rfl
  refine Cd.seq ?_
  refine Cd.region ?_
  refine Ol.p (ldw ag_api_Func (i := 0) rfl rfl) ?_
  refine Ol.s (cl en_ir_long (fun M w' hh => ir_long_ct (hf.now hh) hfit)) ?_
  refine Ol.p mvb ?_
  refine Ol.gp hl (ldw ag_api_Func (i := 0) rfl rfl) ?_
  refine Ol.gs hl (cl en_ir_whole (fun M w' hh => ir_whole_ct (hf.now hh) hfit)) ?_
  refine Ol.gp hl noti ?_
  refine Ol.p (pkFb hl) ?_
  refine Ol.nil ?_
  refine Cd.cond rfl (fun h => by rw [hwb] at h; cases h) (fun h => ?_)
  refine Cd.skip ?_
  refine Cd.seq ?_
  refine Cd.seq ?_
  refine Cd.region ?_
  refine Ol.p (fdl fd_api_Func_1) ?_
  refine Ol.p (ld one_L_api_Block (Rd.blk (i := 0) rfl rfl)) ?_
  refine Ol.p (lens sl_L_api_Block) ?_
  refine Ol.p mvi ?_
  refine Ol.nil ?_
  refine Cd.block ?_
  refine Cd.loop (fun m σ L => ∃ k, m = f.blocks.length - k ∧ k ≤ f.blocks.length ∧ Has σ [(2, .int .i64 (szTo f k : Nat)), (13, .slice f.bA f.blocks.length f.bC), (14, .int .i64 f.blocks.length), (15, .int .i64 k)] ∧ [blk g1 (.cells f.cells.toArray 43)] = L) (n := f.blocks.length) ⟨0, rfl, Nat.zero_le _, ⟨rfl, rfl, rfl, rfl, trivial⟩, rfl⟩ ?_
  rintro _ σ L ⟨k, rfl, hk, hs, rfl⟩
  refine Cd.has hs ?_
  clear hs
  refine Cd.seq ?_
  refine Cd.region ?_
  refine Ol.p lsi ?_
  refine Ol.nil ?_
  refine Cd.seq ?_
  refine Cd.cond rfl (fun h => ?_) (fun h => ?_)
  · have hlt : k < f.blocks.length := by
      simp only [decide_eq_true_eq] at h; omega
    obtain ⟨x, hx⟩ : ∃ x, f.blocks[k]? = some x := ⟨_, List.getElem?_eq_getElem hlt⟩
    have hxm := List.mem_of_getElem? hx
    have hxl := h64 x hxm
    have hle := szTo_le h64 k
    have hsu := szTo_succ hx
    refine Cd.skip ?_
    refine Cd.seq ?_
    refine Cd.block ?_
    refine Cd.seq ?_
    refine Cd.region ?_
    refine Ol.p (ixn (ix := k) sl_L_api_Block (Som.slc hf.blocks (by omega))) ?_
    refine Ol.p (lds (es := x.cells) ag_api_Block hf.blocks x.len (fun j u hu => blk_cell hx hu)) ?_
    refine Ol.x (alc zr_api_Block) ?_
    rintro _ _ ⟨g4, rfl, rfl⟩
    refine Ol.s (stw (vs := x.cells.toArray) sz_api_Block rfl x.one (i := 0) rfl rfl) ?_
    refine Ol.nil ?_
    refine Cd.region ?_
    refine Ol.p mvi ?_
    refine Ol.p (fdl fd_api_Block_0) ?_
    refine Ol.p (ld one_L_api_Ins (Rd.blk (i := 0) rfl rfl)) ?_
    refine Ol.p (lens sl_L_api_Ins) ?_
    refine Ol.p addi ?_
    refine Ol.p addi ?_
    refine Ol.p asi ?_
    refine Ol.keep (.sub (.cons _ (List.Sublist.refl _))) ?_
    refine Ol.nil ?_
    refine Cd.region ?_
    refine Ol.p addi ?_
    refine Ol.p mvi ?_
    refine Ol.nil ?_
    exact ⟨f.blocks.length - (k + 1), by omega, k + 1, rfl, by omega, ⟨congrArg (Value.int .i64) (by rw [hsu]; omega), rfl, rfl, rfl, trivial⟩, rfl⟩
  have hke : k = f.blocks.length := by
    simp only [decide_eq_false_iff_not] at h; omega
  refine Cd.exit (id := 0) ?_
  refine Cd.seq ?_
  refine Cd.region ?_
  refine Ol.p mvi ?_
  refine Ol.p asi ?_
  refine Ol.nil ?_
  refine Cd.ret ⟨.int .i64 _, ret1 rfl rfl, [], .nil, ?_, rfl⟩
  rw [sizeF_ok hok, hke]
  unfold szTo
  rw [List.take_of_length_le (Nat.le_refl _)]
end
end Go.Proofs.Ytcojedoejpcolaa

/- Functions told by what they hold, not where: plain laws. -/
namespace Go.Proofs.Ytcojedoejpcolaa
set_option linter.unusedVariables false
open Go Go.RowKit

def RIns.bare (i : RIns) : RIns := { i with aA := none, aC := 0 }
def RBlk.bare (b : RBlk) : RBlk := { b with iA := none, iC := 0, ins := b.ins.map RIns.bare }
def RFun.bare (f : RFun) : RFun := { f with pA := none, pC := 0, bA := none, bC := 0, blocks := f.blocks.map RBlk.bare }
theorem isIns_bare (i : RIns) : isIns i.bare = isIns i := rfl
theorem readsL_bare (i : RIns) : readsL i.bare = readsL i := rfl
theorem defI_bare (i : RIns) : defI i.bare = defI i := rfl
theorem exposed_bare : ∀ (l : List RIns) (t : Tm) (v : Int), exposed (l.map RIns.bare) t v = exposed l t v
  | [], _, _ => rfl
  | i :: l, t, v => by
    show ((readsL i.bare).contains v || (!decide (defI i.bare = v) && exposed (l.map RIns.bare) t v)) = _
    rw [exposed_bare l t v]; rfl
theorem terms_bare (f : RFun) : f.bare.terms = f.terms := by
  unfold RFun.terms RFun.bare
  rw [List.map_map]
  rfl
theorem longF_bare (f : RFun) : longF f.bare = longF f := by
  unfold longF RFun.bare
  simp only [List.length_map, List.any_map]
  congr 1
  apply congrArg
  funext b
  simp [Function.comp, RBlk.bare]
theorem wholeF_bare (f : RFun) : wholeF f.bare = wholeF f := by
  unfold wholeF RFun.bare
  simp only [List.all_map]
  congr 1
  apply congrArg
  funext b
  simp only [Function.comp, wholeB, RBlk.bare, List.all_map]
  rfl
theorem blk_bare {f : RFun} {b : Nat} {x : RBlk} (h : f.blocks[b]? = some x) : f.bare.blocks[b]? = some x.bare := by
  unfold RFun.bare
  rw [List.getElem?_map, h]; rfl
theorem blk_unbare {f : RFun} {b : Nat} {x : RBlk} (h : f.bare.blocks[b]? = some x) : ∃ y, f.blocks[b]? = some y ∧ x = y.bare := by
  unfold RFun.bare at h
  rw [List.getElem?_map] at h
  cases hb : f.blocks[b]? with
  | none => rw [hb] at h; cases h
  | some y => rw [hb] at h; exact ⟨y, rfl, (Option.some.inj h).symm⟩
theorem Bare_bare {f : RFun} {v b : Nat} : Bare f.bare v b ↔ Bare f v b := by
  constructor
  · intro h
    induction h with
    | zero hp => exact .zero hp
    | step _ ha hd ht ih =>
      obtain ⟨y, hy, rfl⟩ := blk_unbare ha
      exact .step ih hy (fun i hi => hd i.bare (List.mem_map_of_mem hi)) ht
  · intro h
    induction h with
    | zero hp => exact .zero hp
    | step _ ha hd ht ih =>
      refine .step ih (blk_bare ha) (fun i hi => ?_) ht
      obtain ⟨j, hj, rfl⟩ := List.mem_map.1 hi
      exact hd j hj
theorem valuedF_bare (f : RFun) : valuedF f.bare = valuedF f := by
  rw [Bool.eq_iff_iff, valuedF_iff, valuedF_iff]
  constructor
  · intro h b x v hx he hb
    exact h b x.bare v (blk_bare hx) (by show exposed (x.ins.map RIns.bare) x.term v = true; rw [exposed_bare]; exact he) (Bare_bare.2 hb)
  · intro h b x v hx he hb
    obtain ⟨y, hy, rfl⟩ := blk_unbare hx
    exact h b y v hy (by rw [← exposed_bare]; exact he) (Bare_bare.1 hb)
theorem rightF_bare (f : RFun) : rightF f.bare = rightF f := by
  unfold rightF
  rw [longF_bare, wholeF_bare, terms_bare, valuedF_bare]
  unfold RFun.bare
  simp
theorem rightF_same {f g : RFun} (h : g.bare = f.bare) : rightF g = rightF f := by rw [← rightF_bare, h, rightF_bare]
theorem bare_lens {f g : RFun} (h : g.bare = f.bare) : g.params = f.params ∧ g.blocks.length = f.blocks.length := by
  have h1 := congrArg RFun.params h
  have h2 := congrArg (fun x : RFun => x.blocks.length) h
  simp [RFun.bare] at h1 h2
  exact ⟨h1, h2⟩
end Go.Proofs.Ytcojedoejpcolaa

/- How great a function is: walked. -/
namespace Go.Proofs.Ytcojedoejpcolaa
set_option linter.unusedVariables false
open Go Go.RowKit
set_option maxRecDepth 100000

def argSum (l : List RIns) : Nat := (l.map fun i => i.args.length).sum
def bsz (b : RBlk) : Nat := 1 + b.ins.length + argSum b.ins
def blocksSz (l : List RBlk) : Nat := (l.map bsz).sum
def RFun.sz (f : RFun) : Nat := f.params.length + blocksSz f.blocks
theorem argSum_snoc {l : List RIns} {k : Nat} {i : RIns} (h : l[k]? = some i) : argSum (l.take (k + 1)) = argSum (l.take k) + i.args.length := by
  unfold argSum
  rw [take_snoc_ h, List.map_append, List.sum_append]; simp
theorem blocksSz_snoc {l : List RBlk} {k : Nat} {b : RBlk} (h : l[k]? = some b) : blocksSz (l.take (k + 1)) = blocksSz (l.take k) + bsz b := by
  unfold blocksSz
  rw [take_snoc_ h, List.map_append, List.sum_append]; simp
theorem blocksSz_mem {l : List RBlk} {b : RBlk} (h : b ∈ l) : bsz b ≤ blocksSz l := by
  unfold blocksSz
  induction l with
  | nil => cases h
  | cons c l ih =>
    simp only [List.map_cons, List.sum_cons]
    rcases List.mem_cons.1 h with rfl | h
    · omega
    · have := ih h; omega
theorem blocksSz_len (l : List RBlk) : l.length ≤ blocksSz l := by
  unfold blocksSz
  induction l with
  | nil => simp
  | cons b l ih => simp [bsz]; omega
/-- What is counted: all, or more than the bound. -/
def Counted (n most total : Nat) : Prop := (n ≤ most → n = total) ∧ n < 2 ^ 55
theorem counted_ex {most : Nat} (hm : most < 2 ^ 40) (t : Nat) : ∃ n, Counted n most t := by
  rcases Nat.lt_or_ge most t with h | h
  · exact ⟨most + 1, fun h' => by omega, by omega⟩
  · exact ⟨t, fun _ => rfl, by omega⟩
section
set_option maxHeartbeats 1000000 in
theorem kit_BlocksOf_ct {w : World} {f : RFun} {most : Nat} (hf : FunAt w w.heap.size f) (hfit : Fit f) (hm : most < 2 ^ 40) : Ct Try.prog 77 #[.slice f.bA f.blocks.length f.bC, .int .i64 most] w (fun v R => ∃ n : Nat, v = .int .i64 n ∧ Counted n most (blocksSz f.blocks) ∧ R = []) := by
  have hbl := hfit.blen
  refine Ct.mk Try.func77 rfl rfl ?_
  refine Cd.seq ?_
  refine Cd.region ?_
  refine Ol.p asi ?_
  refine Ol.nil ?_
  refine Cd.seq ?_
  refine Cd.region ?_
  refine Ol.p asi ?_
  refine Ol.nil ?_
  refine Cd.seq ?_
  refine Cd.seq ?_
  refine Cd.region ?_
  refine Ol.p asi ?_
  refine Ol.nil ?_
  refine Cd.block ?_
  refine Cd.loop (fun m σ L => ∃ k n : Nat, m = f.blocks.length - k ∧ k ≤ f.blocks.length ∧ Has σ [(0, .slice f.bA f.blocks.length f.bC), (1, .int .i64 most), (5, .int .i64 n), (6, .int .i64 k)] ∧ L = [] ∧ Counted n most (blocksSz (f.blocks.take k))) (n := f.blocks.length) ⟨0, 0, rfl, Nat.zero_le _, ⟨rfl, rfl, rfl, rfl, trivial⟩, rfl, fun _ => rfl, by decide⟩ ?_
  rintro _ σ L ⟨k, n, rfl, hk, hs, rfl, hn⟩
  obtain ⟨hn1, hn2⟩ := hn
  refine Cd.has hs ?_
  refine Cd.seq ?_
  refine Cd.seq ?_
  cases h4 : decide ((k : Int) < (f.blocks.length : Int)) with
  | true =>
    have hlt : k < f.blocks.length := by simpa using h4
    obtain ⟨b, hb⟩ : ∃ b, f.blocks[k]? = some b := ⟨_, List.getElem?_eq_getElem hlt⟩
    have hbm : b ∈ f.blocks := List.mem_of_getElem? hb
    have hil := hfit.ilen b hbm
    have hins := hf.ins b hbm
    have hsl : Som w w.heap.size ([] : List Res) f.bA := Som.slc hf.blocks (by omega)
    have hc0 : (f.blocks.flatMap RBlk.cells)[k * 5 + 0]? = some (.slice b.iA b.ins.length b.iC) := hf.cell hb (by decide)
    refine Cd.region ?_
    refine Ol.p mvi ?_
    refine Ol.p mvs ?_
    refine Ol.p (lens sl_L_api_Block) ?_
    refine Ol.p lsi ?_
    refine Ol.p mvb ?_
    refine Ol.gp h4 mvi ?_
    refine Ol.gp h4 mvi ?_
    refine Ol.gp h4 lei ?_
    refine Ol.p (pkTb h4) ?_
    refine Ol.nil ?_
    refine Cd.cond rfl (fun h => ?_) (fun h => ?_)
    · have hle : n ≤ most := by simpa using h
      have hne := hn1 hle
      refine Cd.skip ?_
      refine Cd.mid (fun σ' L' => ∃ n' : Nat, Has σ' [(0, .slice f.bA f.blocks.length f.bC), (1, .int .i64 most), (5, .int .i64 n'), (6, .int .i64 k)] ∧ L' = [] ∧ Counted n' most (blocksSz (f.blocks.take (k + 1)))) ?_ ?_
      · refine Cd.block ?_
        refine Cd.seq ?_
        refine Cd.region ?_
        refine Ol.p mvi ?_
        refine Ol.p addi ?_
        refine Ol.p mvs ?_
        refine Ol.p mvi ?_
        refine Ol.p (ixn sl_L_api_Block hsl) ?_
        refine Ol.p (fdp fd_api_Block_0) ?_
        refine Ol.p (ld one_L_api_Ins (Rd.slc hf.blocks hc0)) ?_
        refine Ol.p (lens sl_L_api_Ins) ?_
        refine Ol.p addi ?_
        refine Ol.p asi ?_
        refine Ol.nil ?_
        refine Cd.seq ?_
        refine Cd.region ?_
        refine Ol.p asi ?_
        refine Ol.nil ?_
        refine Cd.block ?_
        refine Cd.loop (fun m σ L => ∃ j n : Nat, m = b.ins.length - j ∧ j ≤ b.ins.length ∧ Has σ [(0, .slice f.bA f.blocks.length f.bC), (1, .int .i64 most), (5, .int .i64 n), (6, .int .i64 k), (7, .int .i64 j)] ∧ L = [] ∧ (n ≤ most → n = blocksSz (f.blocks.take k) + 1 + b.ins.length + argSum (b.ins.take j)) ∧ n < 2 ^ 55 ∧ (j = 0 → n ≤ most + 1 + b.ins.length)) (n := b.ins.length) ⟨0, n + 1 + b.ins.length, rfl, Nat.zero_le _, ⟨rfl, rfl, rfl, rfl, rfl, trivial⟩, rfl, fun _ => by rw [hne]; rfl, by omega, fun _ => by omega⟩ ?_
        rintro _ σ L ⟨j, n, rfl, hj, hs, rfl, hq1, hq2, hq3⟩
        refine Cd.has hs ?_
        refine Cd.seq ?_
        refine Cd.seq ?_
        cases h8 : decide ((j : Int) < (b.ins.length : Int)) with
        | true =>
          have hjl : j < b.ins.length := by simpa using h8
          obtain ⟨i, hi⟩ : ∃ i, b.ins[j]? = some i := ⟨_, List.getElem?_eq_getElem hjl⟩
          have him : i ∈ b.ins := List.mem_of_getElem? hi
          have hal := hfit.alen b hbm i him
          have hc6 : (b.ins.flatMap RIns.cells)[j * 8 + 6]? = some (.slice i.aA i.args.length i.aC) := flat_get RIns.len _ _ _ _ hi (by decide)
          refine Cd.region ?_
          refine Ol.p mvi ?_
          refine Ol.p mvs ?_
          refine Ol.p mvi ?_
          refine Ol.p (ixn sl_L_api_Block hsl) ?_
          refine Ol.p (fdp fd_api_Block_0) ?_
          refine Ol.p (ld one_L_api_Ins (Rd.slc hf.blocks hc0)) ?_
          refine Ol.p (lens sl_L_api_Ins) ?_
          refine Ol.p lsi ?_
          refine Ol.p mvb ?_
          refine Ol.gp h8 mvi ?_
          refine Ol.gp h8 mvi ?_
          refine Ol.gp h8 lei ?_
          refine Ol.p (pkTb h8) ?_
          refine Ol.nil ?_
          refine Cd.cond rfl (fun h => ?_) (fun h => ?_)
          · have hle : n ≤ most := by simpa using h
            refine Cd.skip ?_
            refine Cd.seq ?_
            refine Cd.block ?_
            refine Cd.region ?_
            refine Ol.p mvi ?_
            refine Ol.p mvs ?_
            refine Ol.p mvi ?_
            refine Ol.p (ixn sl_L_api_Block hsl) ?_
            refine Ol.p (fdp fd_api_Block_0) ?_
            refine Ol.p (ld one_L_api_Ins (Rd.slc hf.blocks hc0)) ?_
            refine Ol.p mvi ?_
            refine Ol.p (ixn sl_L_api_Ins (Som.slc hins (by omega))) ?_
            refine Ol.p (fdp fd_api_Ins_6) ?_
            refine Ol.p (ld one_L_int (Rd.slc hins hc6)) ?_
            refine Ol.p (lens sl_L_int) ?_
            refine Ol.p addi ?_
            refine Ol.p asi ?_
            refine Ol.nil ?_
            refine Cd.region ?_
            refine Ol.p mvi ?_
            refine Ol.p addi ?_
            refine Ol.p asi ?_
            refine Ol.nil ?_
            refine ⟨b.ins.length - (j + 1), by omega, j + 1, n + i.args.length, rfl, by omega, ⟨rfl, rfl, rfl, rfl, rfl, trivial⟩, rfl, fun h' => ?_, by omega, fun h' => by omega⟩
            rw [argSum_snoc hi, hq1 hle]
            omega
          · have hgt : most < n := by
              have : ¬ (n : Int) ≤ most := by simpa using h
              omega
            refine Cd.exit (id := 2) ?_
            exact ⟨n, ⟨rfl, rfl, rfl, rfl, trivial⟩, rfl, fun h' => by omega, hq2⟩
        | false =>
          have hje : j = b.ins.length := by
            have : ¬ (j : Int) < b.ins.length := by simpa using h8
            omega
          refine Cd.region ?_
          refine Ol.p mvi ?_
          refine Ol.p mvs ?_
          refine Ol.p mvi ?_
          refine Ol.p (ixn sl_L_api_Block hsl) ?_
          refine Ol.p (fdp fd_api_Block_0) ?_
          refine Ol.p (ld one_L_api_Ins (Rd.slc hf.blocks hc0)) ?_
          refine Ol.p (lens sl_L_api_Ins) ?_
          refine Ol.p lsi ?_
          refine Ol.p mvb ?_
          refine Ol.gn h8 ?_
          refine Ol.gn h8 ?_
          refine Ol.gn h8 ?_
          refine Ol.p (pkFb h8) ?_
          refine Ol.nil ?_
          refine Cd.cond rfl (fun h => by cases h) (fun h => ?_)
          refine Cd.exit (id := 2) ?_
          refine ⟨n, ⟨rfl, rfl, rfl, rfl, trivial⟩, rfl, fun h' => ?_, hq2⟩
          rw [hq1 h', hje, List.take_length, blocksSz_snoc hb]
          unfold bsz; omega
      · rintro σ' _ ⟨n', hs', rfl, hn'⟩
        refine Cd.has hs' ?_
        refine Cd.region ?_
        refine Ol.p mvi ?_
        refine Ol.p addi ?_
        refine Ol.p asi ?_
        refine Ol.nil ?_
        exact ⟨f.blocks.length - (k + 1), by omega, k + 1, n', rfl, by omega, ⟨rfl, rfl, rfl, rfl, trivial⟩, rfl, hn'⟩
    · have hgt : most < n := by
        have : ¬ (n : Int) ≤ most := by simpa using h
        omega
      refine Cd.exit (id := 0) ?_
      refine Cd.seq ?_
      refine Cd.region ?_
      refine Ol.p mvi ?_
      refine Ol.p asi ?_
      refine Ol.nil ?_
      exact Cd.ret ⟨.int .i64 _, ret1 rfl rfl, [], .nil, n, rfl, ⟨fun h' => by omega, hn2⟩, rfl⟩
  | false =>
    have hke : k = f.blocks.length := by
      have : ¬ (k : Int) < f.blocks.length := by simpa using h4
      omega
    subst hke
    refine Cd.region ?_
    refine Ol.p mvi ?_
    refine Ol.p mvs ?_
    refine Ol.p (lens sl_L_api_Block) ?_
    refine Ol.p lsi ?_
    refine Ol.p mvb ?_
    refine Ol.gn h4 ?_
    refine Ol.gn h4 ?_
    refine Ol.gn h4 ?_
    refine Ol.p (pkFb h4) ?_
    refine Ol.nil ?_
    refine Cd.cond rfl (fun h => by cases h) (fun h => ?_)
    refine Cd.exit (id := 0) ?_
    refine Cd.seq ?_
    refine Cd.region ?_
    refine Ol.p mvi ?_
    refine Ol.p asi ?_
    refine Ol.nil ?_
    rw [List.take_length] at hn1
    exact Cd.ret ⟨.int .i64 _, ret1 rfl rfl, [], .nil, n, rfl, ⟨hn1, hn2⟩, rfl⟩
theorem kit_FuncOf_ct {w : World} {f : RFun} {most : Nat} (hf : FunAt w w.heap.size f) (hfit : Fit f) (hm : most < 2 ^ 40) : Ct Try.prog 29 #[f.val, .int .i64 most] w (fun v R => ∃ n : Nat, v = .int .i64 n ∧ (n ≤ most → n = f.sz) ∧ n < 2 ^ 56 ∧ R = []) := by
  have hpl := hfit.plen
  refine Ct.mk Try.func29 rfl rfl ?_
  refine Cd.seq ?_
  refine Cd.region ?_
  refine Ol.x bxg ?_
  rintro _ _ ⟨g2, rfl, rfl⟩
  refine Ol.p asi ?_
  refine Ol.nil ?_
  refine Cd.seq ?_
  refine Cd.draw mixed 8 (fun j => match j with | 6 => some (fun v R => ∃ n : Nat, v = .int .i64 n ∧ Counted n most (blocksSz f.blocks) ∧ R = []) | _ => none) (fun _ => []) (by kernel_rfl) (by intro j V h; split at h <;> cases h; obtain ⟨n, hn⟩ := counted_ex hm (blocksSz f.blocks); exact ⟨_, _, n, rfl, hn, rfl⟩) (fun u hu => ?_)
  refine Wk.p (fdl fd_api_Func_0) ?_
  refine Wk.p (ld one_L_int (Rd.blk (i := 0) rfl rfl)) ?_
  refine Wk.p (lens sl_L_int) ?_
  refine Wk.p (fdl fd_api_Func_1) ?_
  refine Wk.p (ld one_L_api_Block (Rd.blk (i := 0) rfl rfl)) ?_
  refine Wk.p mvi ?_
  refine Wk.x hu (sp_call en_kit_BlocksOf (fun M w' hh => kit_BlocksOf_ct (hf.now hh) hfit hm)) ?_
  rintro _ _ hu6 ⟨n, rfl, ⟨hn1, hn2⟩, rfl⟩
  refine Wk.p addi ?_
  refine Wk.nil ?_
  rw [needs_cons hu6, needs_none]
  refine Ol.p asi ?_
  refine Ol.nil ?_
  exact Cd.ret ⟨.int .i64 _, ret1 rfl rfl, [], .nil, f.params.length + n, rfl, fun h' => by rw [hn1 (by omega)]; rfl, by omega, rfl⟩
end
end Go.Proofs.Ytcojedoejpcolaa

/- Picking. -/
namespace Go.Proofs.Ytcojedoejpcolaa
set_option linter.unusedVariables false
open Go Go.RowKit
set_option maxRecDepth 100000
section
def pickF (x : Int) (n : Nat) : Nat := (x % (n : Int)).toNat
theorem pickF_lt {x : Int} {n : Nat} (h : 0 < n) : pickF x n < n := by
  unfold pickF
  have h1 := Int.emod_nonneg x (b := (n : Int)) (by omega)
  have h2 := Int.emod_lt_of_pos x (b := (n : Int)) (by omega)
  omega
theorem kit_Pick_ct {w : World} {x : Int} {n : Nat} (hn : 0 < n) (hn2 : n < 2 ^ 62) : Ct Try.prog 31 #[.int .i64 x, .int .i64 n] w (Is (.int .i64 (pickF x n : Int))) := by
  have hr := Int.tmod_lt_of_pos x (b := (n : Int)) (by omega)
  have hr2 : -(n : Int) < x.tmod n := by
    have h1 := Int.emod_nonneg x (b := (n : Int)) (by omega)
    have h2 := Int.emod_lt_of_pos x (b := (n : Int)) (by omega)
    have h3 := Int.tmod_eq_emod (a := x) (b := (n : Int))
    by_cases hx : 0 ≤ x ∨ (n : Int) ∣ x
    · rw [if_pos hx] at h3; omega
    · rw [if_neg hx] at h3
      have h4 : x % (n : Int) ≠ 0 := fun e => hx (.inr (Int.dvd_of_emod_eq_zero e))
      omega
  have e1 : ¬ (x.tmod n < 0) → x.tmod n = (pickF x n : Int) := fun h => by
    unfold pickF
    have h1 := Int.emod_nonneg x (b := (n : Int)) (by omega)
    have h2 := Int.emod_lt_of_pos x (b := (n : Int)) (by omega)
    have h3 := Int.tmod_eq_emod (a := x) (b := (n : Int))
    rw [Int.toNat_of_nonneg h1]
    split at h3 <;> omega
  have e2 : x.tmod n < 0 → x.tmod n + n = (pickF x n : Int) := fun h => by
    unfold pickF
    have h1 := Int.emod_nonneg x (b := (n : Int)) (by omega)
    have h2 := Int.emod_lt_of_pos x (b := (n : Int)) (by omega)
    have h3 := Int.tmod_eq_emod (a := x) (b := (n : Int))
    rw [Int.toNat_of_nonneg h1]
    split at h3 <;> omega
  refine Ct.mk Try.func31 rfl rfl ?_
  refine Cd.seq ?_
  refine Cd.region ?_
  refine Ol.p asi ?_
  refine Ol.nil ?_
  refine Cd.seq ?_
  refine Cd.seq ?_
  refine Cd.region ?_
  refine Ol.p mvi ?_
  refine Ol.p lsi ?_
  refine Ol.nil ?_
  refine Cd.cond rfl (fun h => ?_) (fun h => ?_)
  · simp at h; omega
  refine Cd.skip ?_
  refine Cd.seq ?_
  refine Cd.region ?_
  refine Ol.p mvi ?_
  refine Ol.p mvi ?_
  refine Ol.p remi ?_
  refine Ol.p asi ?_
  refine Ol.nil ?_
  refine Cd.seq ?_
  refine Cd.seq ?_
  refine Cd.region ?_
  refine Ol.p mvi ?_
  refine Ol.p lsi ?_
  refine Ol.nil ?_
  refine Cd.cond rfl (fun h => ?_) (fun h => ?_)
  · have h' : x.tmod n < 0 := by simpa using h
    refine Cd.region ?_
    refine Ol.p mvi ?_
    refine Ol.p mvi ?_
    refine Ol.p addi ?_
    refine Ol.p asi ?_
    refine Ol.nil ?_
    refine Cd.seq ?_
    refine Cd.region ?_
    refine Ol.p mvi ?_
    refine Ol.p asi ?_
    refine Ol.nil ?_
    refine Cd.ret ⟨_, ret1 rfl rfl, [], .nil, ?_, rfl⟩
    rw [← e2 h']
    rfl
  · have h' : ¬ x.tmod n < 0 := by simpa using h
    refine Cd.skip ?_
    refine Cd.seq ?_
    refine Cd.region ?_
    refine Ol.p mvi ?_
    refine Ol.p asi ?_
    refine Ol.nil ?_
    refine Cd.ret ⟨_, ret1 rfl rfl, [], .nil, ?_, rfl⟩
    rw [← e1 h']
    rfl
end
end Go.Proofs.Ytcojedoejpcolaa

/- The law 03: its example; IrSafe, walked. -/
namespace Go.Proofs.Ytcojedoejpcolaa
set_option linter.unusedVariables false
open Go Go.RowKit
set_option maxRecDepth 100000

theorem reads_no {w : World} {B s : Nat} : Reads w B s none 0 [] := ⟨by simp, fun h => absurd h (by omega)⟩
theorem exposed_mid : ∀ {l : List RIns} {t : Tm} {v : Int} {k : Nat} {i : RIns}, l[k]? = some i → (∀ j, j < k → ∀ i', l[j]? = some i' → defI i' ≠ v) → v ∈ readsL i → exposed l t v = true
  | [], _, _, _, _, h, _, _ => by simp at h
  | a :: l, t, v, 0, i, h, _, hv => by
    have : a = i := by simpa using h
    subst this
    unfold exposed
    rw [Bool.or_eq_true]
    exact .inl (by simpa using hv)
  | a :: l, t, v, k + 1, i, h, hd, hv => by
    unfold exposed
    rw [Bool.or_eq_true, Bool.and_eq_true]
    refine .inr ⟨?_, exposed_mid (k := k) (i := i) (by simpa using h) (fun j hj i' hi' => hd (j + 1) (by omega) i' (by simpa using hi')) hv⟩
    have := hd 0 (by omega) a (by simp)
    simpa using this
theorem exposed_end : ∀ {l : List RIns} {t : Tm} {v : Int}, (∀ i ∈ l, defI i ≠ v) → v ∈ needsL t → exposed l t v = true
  | [], t, v, _, hv => by unfold exposed; simpa using hv
  | a :: l, t, v, hd, hv => by
    unfold exposed
    rw [Bool.or_eq_true, Bool.and_eq_true]
    exact .inr ⟨by simpa using hd a (by simp), exposed_end (fun i hi => hd i (by simp [hi])) hv⟩
section
def I03 : List RIns := [⟨1, 1, 0, 0, 5, 0, none, 0, [], 0⟩]
def B03 (gi : Nat) (a : Int) : RBlk := ⟨some ⟨gi, 0, none⟩, 1, I03, ⟨3, a, 0, 0⟩⟩
def F03 (gb gi : Nat) (a : Int) : RFun := ⟨none, 0, [], some ⟨gb, 0, none⟩, 1, [B03 gi a]⟩
theorem F03_fit {gb gi : Nat} {a : Int} (h : a = 1 ∨ a = 2) : Fit (F03 gb gi a) := by
  rcases h with rfl | rfl <;> constructor <;> simp [F03, B03, I03]
theorem F03_at {w : World} {B gb gi : Nat} {a : Int} (h : Reads w B 5 (some ⟨gb, 0, none⟩) 1 ((F03 gb gi a).blocks.flatMap RBlk.cells)) (hi : Reads w B 8 (some ⟨gi, 0, none⟩) 1 (I03.flatMap RIns.cells)) : FunAt w B (F03 gb gi a) := by
  refine ⟨reads_no, h, ?_, ?_⟩
  · intro b hb
    simp [F03] at hb
    subst hb
    exact hi
  · intro b hb i hi
    simp [F03] at hb
    subst hb
    simp [B03, I03] at hi
    subst hi
    exact reads_no
theorem F03_blk {gb gi b : Nat} {a : Int} {x : RBlk} (hx : (F03 gb gi a).blocks[b]? = some x) : b = 0 ∧ x = B03 gi a := by
  have h0 : b = 0 := by
    have := (List.getElem?_eq_some_iff.1 hx).1
    simp [F03] at this; exact this
  subst h0
  exact ⟨rfl, by simpa [F03] using hx.symm⟩
theorem F03_ord {gb gi : Nat} {a : Int} (h : a = 1 ∨ a = 2) : decide ((orderF (F03 gb gi a).terms).length < (F03 gb gi a).blocks.length) = false := by
  rw [decide_eq_false_iff_not]
  have : (0 : Nat) ∈ orderF (F03 gb gi a).terms := by
    rcases h with rfl | rfl
    · exact List.contains_iff_mem.1 (show (orderF [(⟨3, 1, 0, 0⟩ : Tm)]).contains 0 = true by kernel_rfl)
    · exact List.contains_iff_mem.1 (show (orderF [(⟨3, 2, 0, 0⟩ : Tm)]).contains 0 = true by kernel_rfl)
  have h1 := List.length_pos_of_mem this
  have h2 : (F03 gb gi a).blocks.length = 1 := rfl
  omega
theorem e03r : readsL ⟨1, 1, 0, 0, 5, 0, none, 0, [], 0⟩ = [] := by kernel_rfl
theorem e03d : defI ⟨1, 1, 0, 0, 5, 0, none, 0, [], 0⟩ = 1 := by kernel_rfl
theorem F03_r1 {gb gi : Nat} : rightF (F03 gb gi 1) = 0 := by
  rw [rightF_iff]
  refine ⟨by kernel_rfl, by kernel_rfl, by kernel_rfl, by have := F03_ord (gb := gb) (gi := gi) (.inl rfl); simpa using this, ?_⟩
  rw [valuedF_iff]
  intro b x v hx he
  obtain ⟨rfl, rfl⟩ := F03_blk hx
  exfalso
  have e5 : needsL ⟨3, 1, 0, 0⟩ = [1] := by kernel_rfl
  simp [B03, I03, exposed, e03r, e03d, e5] at he
  omega
theorem F03_v2 {gb gi : Nat} : valuedF (F03 gb gi 2) = false := by
  rw [← Bool.not_eq_true, valuedF_iff]
  intro h
  have e5 : needsL ⟨3, 2, 0, 0⟩ = [2] := by kernel_rfl
  refine h 0 (B03 gi 2) 2 rfl ?_ (.zero fun p hp => ?_)
  · simp [B03, I03, exposed, e03r, e03d, e5]
  · simp [F03] at hp
theorem F03_r2 {gb gi : Nat} : rightF (F03 gb gi 2) = 8 := by
  unfold rightF
  rw [show longF (F03 gb gi 2) = false by kernel_rfl, show wholeF (F03 gb gi 2) = true by kernel_rfl, show okEs (F03 gb gi 2).terms = true by kernel_rfl, F03_ord (.inr rfl), F03_v2]
  rfl
theorem F03_vars {gb gi : Nat} : (varsF (F03 gb gi 1)).length = 1 := by kernel_rfl
theorem F03_size {gb gi : Nat} : sizeF (F03 gb gi 1) = 2 := by kernel_rfl
set_option maxHeartbeats 2000000 in
theorem law03_awake_ct {w : World} : Ct Try.prog 12 #[] w (Is (.bool true)) := by
  refine Ct.mk Try.func12 rfl rfl ?_
  refine Cd.seq ?_
  refine Cd.region ?_
  refine Ol.p asb ?_
  refine Ol.nil ?_
  refine Cd.seq ?_
  refine Cd.region ?_
  refine Ol.p (bds (cs := (RIns.cells ⟨1, 1, 0, 0, 5, 0, none, 0, [], 0⟩).toArray) bs_api_Ins zr_api_Ins (hf := by kernel_rfl)) ?_
  refine Ol.x (bsn [RIns.val ⟨1, 1, 0, 0, 5, 0, none, 0, [], 0⟩] sl_L_api_Ins zr_api_Ins (by intro v hv; simp at hv; subst hv; rfl) rfl (by decide) (by decide)) ?_
  rintro _ _ ⟨gi, rfl, rfl⟩
  refine Ol.p (bds (cs := #[.int .i64 3, .int .i64 1, .int .i64 0, .int .i64 0]) bs_api_Term zr_api_Term (hf := by kernel_rfl)) ?_
  refine Ol.p (bds (cs := #[.slice (some ⟨gi, 0, none⟩) 1 1, .int .i64 3, .int .i64 1, .int .i64 0, .int .i64 0]) bs_api_Block zr_api_Block (hf := by kernel_rfl)) ?_
  refine Ol.x (bsn [RBlk.val (B03 gi 1)] sl_L_api_Block zr_api_Block (by intro v hv; simp at hv; subst hv; rfl) rfl (by decide) (by decide)) ?_
  rintro _ _ ⟨gb, rfl, rfl⟩
  refine Ol.p (bds (cs := #[.slice none 0 0, .slice (some ⟨gb, 0, none⟩) 1 1]) bs_api_Func zr_api_Func (hf := by kernel_rfl)) ?_
  refine Ol.x (alc zr_api_Func) ?_
  rintro _ _ ⟨g1, rfl, rfl⟩
  refine Ol.s (stw (vs := #[.slice none 0 0, .slice (some ⟨gb, 0, none⟩) 1 1]) sz_api_Func rfl (by intro u hu; simp at hu; rcases hu with rfl | rfl <;> rfl) (i := 0) rfl rfl) ?_
  refine Ol.nil ?_
  refine Cd.seq ?_
  refine Cd.region ?_
  refine Ol.p (fdl fd_api_Func_1) ?_
  refine Ol.p (ld one_L_api_Block (Rd.blk (i := 0) rfl rfl)) ?_
  refine Ol.p (ixn (ix := 0) sl_L_api_Block (Som.row (i := 1) rfl Nat.one_pos)) ?_
  refine Ol.p (fdp fd_api_Block_0) ?_
  refine Ol.p (ld (v := .slice (some ⟨gi, 0, none⟩) 1 1) one_L_api_Ins (Rd.row (i := 1) rfl rfl)) ?_
  refine Ol.p (bds (cs := #[.int .i64 3, .int .i64 2, .int .i64 0, .int .i64 0]) bs_api_Term zr_api_Term (hf := by kernel_rfl)) ?_
  refine Ol.p (bds (cs := #[.slice (some ⟨gi, 0, none⟩) 1 1, .int .i64 3, .int .i64 2, .int .i64 0, .int .i64 0]) bs_api_Block zr_api_Block (hf := by kernel_rfl)) ?_
  refine Ol.x (bsn [RBlk.val (B03 gi 2)] sl_L_api_Block zr_api_Block (by intro v hv; simp at hv; subst hv; rfl) rfl (by decide) (by decide)) ?_
  rintro _ _ ⟨gb2, rfl, rfl⟩
  refine Ol.p (bds (cs := #[.slice none 0 0, .slice (some ⟨gb2, 0, none⟩) 1 1]) bs_api_Func zr_api_Func (hf := by kernel_rfl)) ?_
  refine Ol.x (alc zr_api_Func) ?_
  rintro _ _ ⟨g2, rfl, rfl⟩
  refine Ol.s (stw (vs := #[.slice none 0 0, .slice (some ⟨gb2, 0, none⟩) 1 1]) sz_api_Func rfl (by intro u hu; simp at hu; rcases hu with rfl | rfl <;> rfl) (i := 0) rfl rfl) ?_
  refine Ol.nil ?_
  have hv := F03_vars (gb := gb) (gi := gi)
  have hf1 : ∀ {M : List Res} {w' : World}, Hp w w.heap.size (M ++ [blk g2 (.cells #[.slice none 0 0, .slice (some ⟨gb2, 0, none⟩) 1 1] 43), row (.slice (some ⟨gb2, 0, none⟩) 1 1) 50 5 1 ((B03 gi 2).cells), blk g1 (.cells #[.slice none 0 0, .slice (some ⟨gb, 0, none⟩) 1 1] 43), row (.slice (some ⟨gb, 0, none⟩) 1 1) 50 5 1 ((B03 gi 1).cells), row (.slice (some ⟨gi, 0, none⟩) 1 1) 25 8 1 (I03.flatMap RIns.cells)]) w' → FunAt w' w'.heap.size (F03 gb gi 1) := fun hh => F03_at (Reads.row hh (i := 3) rfl) (Reads.row hh (i := 4) rfl)
  have hf2 : ∀ {M : List Res} {w' : World}, Hp w w.heap.size (M ++ [blk g2 (.cells #[.slice none 0 0, .slice (some ⟨gb2, 0, none⟩) 1 1] 43), row (.slice (some ⟨gb2, 0, none⟩) 1 1) 50 5 1 ((B03 gi 2).cells), blk g1 (.cells #[.slice none 0 0, .slice (some ⟨gb, 0, none⟩) 1 1] 43), row (.slice (some ⟨gb, 0, none⟩) 1 1) 50 5 1 ((B03 gi 1).cells), row (.slice (some ⟨gi, 0, none⟩) 1 1) 25 8 1 (I03.flatMap RIns.cells)]) w' → FunAt w' w'.heap.size (F03 gb2 gi 2) := fun hh => F03_at (Reads.row hh (i := 1) rfl) (Reads.row hh (i := 4) rfl)
  have hr1 : decide (rightF (F03 gb gi 1) = 0) = true := by rw [F03_r1]; rfl
  have hr2 : decide (rightF (F03 gb2 gi 2) = 8) = true := by rw [F03_r2]; rfl
  have hv1 : decide (((varsF (F03 gb gi 1)).length : Int) = 1) = true := by rw [hv]; rfl
  refine Cd.seq ?_
  refine Cd.region ?_
  refine Ol.p (ldw ag_api_Func (i := 2) rfl rfl) ?_
  refine Ol.s (cl en_ir_Right (fun M w' hh => ir_Right_ct (f := F03 gb gi 1) (hf1 hh) (F03_fit (.inl rfl)))) ?_
  refine Ol.p eqi ?_
  refine Ol.p mvb ?_
  refine Ol.gp hr1 (ldw ag_api_Func (i := 0) rfl rfl) ?_
  refine Ol.gs hr1 (cl en_ir_Right (fun M w' hh => ir_Right_ct (f := F03 gb2 gi 2) (hf2 hh) (F03_fit (.inr rfl)))) ?_
  refine Ol.gp hr1 eqi ?_
  refine Ol.p (pkTb hr1) ?_
  refine Ol.p mvb ?_
  refine Ol.gp hr2 (ldw ag_api_Func (i := 2) rfl rfl) ?_
  refine Ol.gx hr2 (sp_call en_ir_Vars (fun M w' hh => ir_Vars_ct (f := F03 gb gi 1) (hf1 hh) (F03_fit (.inl rfl)))) ?_
  rintro _ _ ⟨_, rfl, A28, c28, rfl, rfl⟩
  refine Ol.gp hr2 (lens sl_L_int) ?_
  refine Ol.gp hr2 eqi ?_
  refine Ol.p (pkTb hr2) ?_
  refine Ol.p mvb ?_
  refine Ol.gp hv1 (ldw ag_api_Func (i := 3) rfl rfl) ?_
  refine Ol.gs hv1 (cl en_ir_Size (fun M w' hh => ir_Size_ct (f := F03 gb gi 1) (F03_at (Reads.row hh (i := 4) rfl) (Reads.row hh (i := 5) rfl)) (F03_fit (.inl rfl)))) ?_
  refine Ol.gp hv1 eqi ?_
  refine Ol.p (pkTb hv1) ?_
  refine Ol.p asb ?_
  refine Ol.nil ?_
  refine Cd.ret ⟨.bool _, ret1 rfl rfl, _, .nil, ?_, rfl⟩
  rw [F03_size]
  rfl
end
section
set_option maxHeartbeats 8000000 in
theorem law03_IrSafe_ct {w : World} {f : RFun} {Aw : Option Addr} {cw : Nat} {way : List Int} (hf : FunAt w w.heap.size f) (hfit : Fit f) (hw : Reads w w.heap.size 1 Aw way.length (ints way)) (hwl : way.length < 2 ^ 60) : Ct Try.prog 4 #[f.val, .slice Aw way.length cw] w (Is (.bool true)) := by
  have hbl := hfit.blen
  have hpl := hfit.plen
  refine Ct.mk Try.func4 rfl rfl ?_
  refine Cd.seq ?_
  refine Cd.region ?_
  refine Ol.x bxg ?_
  rintro _ _ ⟨g2, rfl, rfl⟩
  refine Ol.p asb ?_
  refine Ol.nil ?_
  refine Cd.seq ?_
  refine Cd.seq ?_
  refine Cd.region ?_
  refine Ol.s (cl en_law03_awake (fun M w' hh => law03_awake_ct)) ?_
  refine Ol.p noti ?_
  refine Ol.nil ?_
  refine Cd.cond rfl (fun h => by cases h) (fun h => ?_)
  refine Cd.skip ?_
  refine Cd.seq ?_
  refine Cd.mid (fun σ' L' => ∃ b : Bool, (b = false → way.length ≤ 300 ∧ rightF f = 0) ∧ Has σ' [(1, .slice Aw way.length cw), (2, .pointer (some ⟨g2, 0, none⟩)), (29, .bool b)] ∧ [blk g2 (.cells f.cells.toArray 43)] = L') ?_ ?_
  · skip
    refine Cd.region ?_
    refine Ol.p (ldw ag_api_Func (i := 0) rfl rfl) ?_
    refine Ol.x (sp_call en_kit_FuncOf (fun M w' hh => kit_FuncOf_ct (hf.now hh) hfit (most := 700) (by decide))) ?_
    rintro _ _ ⟨_, rfl, N, rfl, hN1, hN2, rfl⟩
    cases h3 : decide ((700 : Int) < (N : Int)) with
    | true =>
      refine Ol.p gti ?_
      refine Ol.p mvb ?_
      refine Ol.gn h3 ?_
      refine Ol.gn h3 ?_
      refine Ol.gn h3 ?_
      refine Ol.p (pkTb h3) ?_
      refine Ol.p mvb ?_
      refine Ol.gn rfl ?_
      refine Ol.gn rfl ?_
      refine Ol.gn rfl ?_
      refine Ol.p (pkTb rfl) ?_
      refine Ol.nil ?_
      exact ⟨true, (fun h => by cases h), ⟨rfl, rfl, rfl, trivial⟩, rfl⟩
    | false =>
      cases h8 : decide ((300 : Int) < (way.length : Int)) with
      | true =>
        refine Ol.p gti ?_
        refine Ol.p mvb ?_
        refine Ol.gp h3 mvs ?_
        refine Ol.gp h3 (lens sl_L_int) ?_
        refine Ol.gp h3 gti ?_
        refine Ol.p (pkFb h3) ?_
        refine Ol.p mvb ?_
        refine Ol.gn h8 ?_
        refine Ol.gn h8 ?_
        refine Ol.gn h8 ?_
        refine Ol.p (pkTb h8) ?_
        refine Ol.nil ?_
        exact ⟨true, (fun h => by cases h), ⟨rfl, rfl, rfl, trivial⟩, rfl⟩
      | false =>
        refine Ol.p gti ?_
        refine Ol.p mvb ?_
        refine Ol.gp h3 mvs ?_
        refine Ol.gp h3 (lens sl_L_int) ?_
        refine Ol.gp h3 gti ?_
        refine Ol.p (pkFb h3) ?_
        refine Ol.p mvb ?_
        refine Ol.gp h8 (ldw ag_api_Func (i := 0) rfl rfl) ?_
        refine Ol.gs h8 (cl en_ir_Right (fun M w' hh => ir_Right_ct (hf.now hh) hfit)) ?_
        refine Ol.gp h8 nei ?_
        refine Ol.p (pkFb h8) ?_
        refine Ol.nil ?_
        exact ⟨_, (fun h => ⟨by simp only [decide_eq_false_iff_not] at h8; omega, by simpa using h⟩), ⟨rfl, rfl, rfl, trivial⟩, rfl⟩
  rintro σ' _ ⟨b29, hb29, hs', rfl⟩
  refine Cd.has hs' ?_
  refine Cd.cond rfl (fun h => ?_) (fun h => ?_)
  · refine Cd.seq ?_
    refine Cd.region ?_
    refine Ol.p asb ?_
    refine Ol.nil ?_
    exact Cd.ret ⟨.bool _, ret1 rfl rfl, [], .nil, rfl, rfl⟩
  obtain ⟨hw300, hr⟩ := hb29 h
  clear hs' h hb29
  obtain ⟨hlong, hwhole, hok, hord, hval⟩ := rightF_iff.1 hr
  obtain ⟨h0, h200, h8, h64⟩ := long_parts hlong
  have hprm := whole_params hwhole
  refine Cd.skip ?_
  refine Cd.seq ?_
  refine Cd.region ?_
  refine Ol.x (alc zr_A201_bool) ?_
  rintro _ _ ⟨g5, rfl, rfl⟩
  refine Ol.nil ?_
  -- the parameters
  refine Cd.mid (fun σ' L' => ∃ S : VS, (∀ v, S v = false → ∀ p ∈ f.params, p.toNat ≠ v) ∧ Has σ' [(1, .slice Aw way.length cw), (2, .pointer (some ⟨g2, 0, none⟩)), (5, .pointer (some ⟨g5, 0, none⟩))] ∧ [blk g5 (.cells (encV S) 47), blk g2 (.cells f.cells.toArray 43)] = L') ?_ ?_
  · refine Cd.seq ?_
    refine Cd.region ?_
    refine Ol.p asi ?_
    refine Ol.nil ?_
    refine Cd.block ?_
    refine Cd.loop (fun m σ L => ∃ k, m = f.params.length - k ∧ k ≤ f.params.length ∧ Has σ [(1, .slice Aw way.length cw), (2, .pointer (some ⟨g2, 0, none⟩)), (5, .pointer (some ⟨g5, 0, none⟩)), (6, .int .i64 k)] ∧ [blk g5 (.cells (encV (putsV noS (f.params.take k) true)) 47), blk g2 (.cells f.cells.toArray 43)] = L) (n := f.params.length) ⟨0, rfl, Nat.zero_le _, ⟨rfl, rfl, rfl, rfl, trivial⟩, by rw [show putsV noS (f.params.take 0) true = fun _ => false from rfl, ← zeroV]; rfl⟩ ?_
    rintro _ σ L ⟨k, rfl, hk, hs, rfl⟩
    refine Cd.has hs ?_
    clear hs
    refine Cd.seq ?_
    refine Cd.seq ?_
    refine Cd.region ?_
    refine Ol.p mvi ?_
    refine Ol.p (fdl fd_api_Func_0) ?_
    refine Ol.p (ld one_L_int (Rd.blk (i := 1) rfl rfl)) ?_
    refine Ol.p (lens sl_L_int) ?_
    refine Ol.p lsi ?_
    refine Ol.nil ?_
    refine Cd.cond rfl (fun h => ?_) (fun h => ?_)
    · have hlt : k < f.params.length := by
        simp only [decide_eq_true_eq] at h; omega
      obtain ⟨n, hn⟩ : ∃ n, f.params[k]? = some n := ⟨_, List.getElem?_eq_getElem hlt⟩
      have hnr := hprm n (List.mem_of_getElem? hn)
      obtain ⟨m, rfl⟩ : ∃ m : Nat, n = (m : Int) := ⟨n.toNat, by omega⟩
      refine Cd.skip ?_
      refine Cd.seq ?_
      refine Cd.block ?_
      refine Cd.region ?_
      refine Ol.p (fdl fd_api_Func_0) ?_
      refine Ol.p (ld one_L_int (Rd.blk (i := 1) rfl rfl)) ?_
      refine Ol.p mvi ?_
      refine Ol.p (ixn1 (ix := k) sl_L_int (Som.slc hf.params (by omega))) ?_
      refine Ol.p (ld one_int (Rd.slc hf.params (ints_at hn))) ?_
      refine Ol.p (ixl1 (ix := m) ar_A201_bool) ?_
      refine Ol.s (sto (v := .bool true) (i := 0) (k := m) (.inr sz_bool) rfl rfl rfl (by rw [encV_size]; omega) rfl) ?_
      refine Ol.nil ?_
      refine Cd.region ?_
      refine Ol.p mvi ?_
      refine Ol.p addi ?_
      refine Ol.p asi ?_
      refine Ol.nil ?_
      refine ⟨f.params.length - (k + 1), by omega, k + 1, rfl, by omega, ⟨rfl, rfl, rfl, rfl, trivial⟩, ?_⟩
      rw [take_snoc_ hn, putsV_snoc, ← encV_set]
      rfl
    have hke : k = f.params.length := by
      simp only [decide_eq_false_iff_not] at h; omega
    refine Cd.exit (id := 0) ⟨putsV noS f.params true, fun v hv p hp e => ?_, ⟨rfl, rfl, rfl, trivial⟩, by rw [hke, List.take_of_length_le (Nat.le_refl _)]⟩
    have : putsV noS f.params true v = true := putsV_iff.2 (.inr ⟨p, hp, e⟩)
    rw [this] at hv; cases hv
  rintro σ' _ ⟨S0, hS0, hs', rfl⟩
  refine Cd.has hs' ?_
  clear hs'
  refine Cd.seq ?_
  refine Cd.region ?_
  refine Ol.p asi ?_
  refine Ol.nil ?_
  -- the way
  refine Cd.mid (fun σ' L' => True) ?_ ?_
  · refine Cd.seq ?_
    refine Cd.region ?_
    refine Ol.p asi ?_
    refine Ol.nil ?_
    refine Cd.block ?_
    refine Cd.loop (fun m σ L => ∃ (k b : Nat) (S : VS), m = way.length - k ∧ k ≤ way.length ∧ b < f.blocks.length ∧ (∀ v, S v = false → Bare f v b) ∧ Has σ [(1, .slice Aw way.length cw), (2, .pointer (some ⟨g2, 0, none⟩)), (5, .pointer (some ⟨g5, 0, none⟩)), (7, .int .i64 b), (8, .int .i64 k)] ∧
      [blk g5 (.cells (encV S) 47), blk g2 (.cells f.cells.toArray 43)] = L) (n := way.length) ⟨0, 0, S0, rfl, Nat.zero_le _, h0, fun v hv => .zero (hS0 v hv), ⟨rfl, rfl, rfl, rfl, rfl, trivial⟩, rfl⟩ ?_
    rintro _ σ L ⟨k, b, S, rfl, hk, hbn, hbare, hs, rfl⟩
    refine Cd.has hs ?_
    clear hs
    have hkw : decide ((k : Int) ≤ (way.length : Int)) = true := by rw [decide_eq_true_iff]; omega
    obtain ⟨x, hx⟩ : ∃ x, f.blocks[b]? = some x := ⟨_, List.getElem?_eq_getElem hbn⟩
    have hxm := List.mem_of_getElem? hx
    have hxl := h64 x hxm
    have hsafe := fun v he => valuedF_iff.1 hval b x v hx he
    have htoL := toL_len x.term
    have hnl := needsL_len x.term
    refine Cd.seq ?_
    refine Cd.seq ?_
    refine Cd.region ?_
    refine Ol.p mvi ?_
    refine Ol.p mvs ?_
    refine Ol.p (lens sl_L_int) ?_
    refine Ol.p lei ?_
    refine Ol.nil ?_
    refine Cd.cond rfl (fun h => ?_) (fun h => by rw [hkw] at h; cases h)
    refine Cd.skip ?_
    refine Cd.seq ?_
    refine Cd.block ?_
    refine Cd.seq ?_
    refine Cd.region ?_
    refine Ol.p (fdl fd_api_Func_1) ?_
    refine Ol.p (ld one_L_api_Block (Rd.blk (i := 1) rfl rfl)) ?_
    refine Ol.p mvi ?_
    refine Ol.p (ixn (ix := b) sl_L_api_Block (Som.slc hf.blocks (by omega))) ?_
    refine Ol.p (lds (es := x.cells) ag_api_Block hf.blocks x.len (fun j u hu => blk_cell hx hu)) ?_
    refine Ol.x (alc zr_api_Block) ?_
    rintro _ _ ⟨g9, rfl, rfl⟩
    refine Ol.s (stw (vs := x.cells.toArray) sz_api_Block rfl x.one (i := 0) rfl rfl) ?_
    refine Ol.nil ?_
    refine Cd.mid (fun σ' L' => ∃ S' : VS, (∀ v, S' v = false → Bare f v b ∧ ∀ i ∈ x.ins, (defI i).toNat ≠ v) ∧ Has σ' [(1, .slice Aw way.length cw), (2, .pointer (some ⟨g2, 0, none⟩)), (5, .pointer (some ⟨g5, 0, none⟩)), (7, .int .i64 b), (8, .int .i64 k), (9, .pointer (some ⟨g9, 0, none⟩))] ∧
      [blk g9 (.cells x.cells.toArray 50), blk g5 (.cells (encV S') 47), blk g2 (.cells f.cells.toArray 43)] = L') ?_ ?_
    · refine Cd.seq ?_
      refine Cd.region ?_
      refine Ol.p asi ?_
      refine Ol.nil ?_
      refine Cd.block ?_
      refine Cd.loop (fun m σ L => ∃ (q : Nat) (S' : VS), m = x.ins.length - q ∧ q ≤ x.ins.length ∧ (∀ v, S' v = false → Bare f v b ∧ ∀ j, j < q → ∀ i, x.ins[j]? = some i → (defI i).toNat ≠ v) ∧ Has σ [(1, .slice Aw way.length cw), (2, .pointer (some ⟨g2, 0, none⟩)), (5, .pointer (some ⟨g5, 0, none⟩)), (7, .int .i64 b), (8, .int .i64 k), (9, .pointer (some ⟨g9, 0, none⟩)), (10, .int .i64 q)] ∧
        [blk g9 (.cells x.cells.toArray 50), blk g5 (.cells (encV S') 47), blk g2 (.cells f.cells.toArray 43)] = L) (n := x.ins.length) ⟨0, S, rfl, Nat.zero_le _, fun v hv => ⟨hbare v hv, fun j hj => by omega⟩, ⟨rfl, rfl, rfl, rfl, rfl, rfl, rfl, trivial⟩, rfl⟩ ?_
      rintro _ σ L ⟨q, S', rfl, hq, hbr, hs, rfl⟩
      refine Cd.has hs ?_
      clear hs
      refine Cd.seq ?_
      refine Cd.seq ?_
      refine Cd.region ?_
      refine Ol.p mvi ?_
      refine Ol.p (fdl fd_api_Block_0) ?_
      refine Ol.p (ld one_L_api_Ins (Rd.blk (i := 0) rfl rfl)) ?_
      refine Ol.p (lens sl_L_api_Ins) ?_
      refine Ol.p lsi ?_
      refine Ol.nil ?_
      refine Cd.cond rfl (fun h => ?_) (fun h => ?_)
      · have hql : q < x.ins.length := by
          simp only [decide_eq_true_eq] at h; omega
        obtain ⟨i, hi⟩ : ∃ i, x.ins[q]? = some i := ⟨_, List.getElem?_eq_getElem hql⟩
        have him := List.mem_of_getElem? hi
        have hrl := readsL_len i
        have hal := hfit.alen x hxm i him
        have hdr := defI_range i
        have hia : ∀ {M : List Res} {w' : World}, Hp w w.heap.size M w' → InsAt w' i := fun hh => ⟨(hf.args x hxm i him).now hh, hal, hfit.insr x hxm i him i.callee (by simp)⟩
        obtain ⟨dn, hdn⟩ : ∃ dn : Nat, defI i = (dn : Int) := ⟨(defI i).toNat, by omega⟩
        refine Cd.skip ?_
        refine Cd.seq ?_
        refine Cd.block ?_
        refine Cd.seq ?_
        refine Cd.region ?_
        refine Ol.p (fdl fd_api_Block_0) ?_
        refine Ol.p (ld one_L_api_Ins (Rd.blk (i := 0) rfl rfl)) ?_
        refine Ol.p mvi ?_
        refine Ol.p (ixn (ix := q) sl_L_api_Ins (Som.slc (hf.ins x hxm) (by omega))) ?_
        refine Ol.p (lds (es := i.cells) ag_api_Ins (hf.ins x hxm) i.len (fun j u hu => ins_cell hi hu)) ?_
        refine Ol.x (sp_call en_ir_Reads (fun M w' hh => ir_Reads_ct (hia hh))) ?_
        rintro _ _ ⟨_, rfl, A66, c66, rfl, rfl⟩
        refine Ol.p ass ?_
        refine Ol.nil ?_
        refine Cd.mid (fun σ' L' => Has σ' [(1, .slice Aw way.length cw), (2, .pointer (some ⟨g2, 0, none⟩)), (5, .pointer (some ⟨g5, 0, none⟩)), (7, .int .i64 b), (8, .int .i64 k), (9, .pointer (some ⟨g9, 0, none⟩)), (10, .int .i64 q)] ∧
          [blk g9 (.cells x.cells.toArray 50), blk g5 (.cells (encV S') 47), blk g2 (.cells f.cells.toArray 43)] = L') ?_ ?_
        · refine Cd.seq ?_
          refine Cd.region ?_
          refine Ol.p asi ?_
          refine Ol.nil ?_
          refine Cd.block ?_
          refine Cd.loop (fun m σ L => ∃ j, m = (readsL i).length - j ∧ j ≤ (readsL i).length ∧ Has σ [(1, .slice Aw way.length cw), (2, .pointer (some ⟨g2, 0, none⟩)), (5, .pointer (some ⟨g5, 0, none⟩)), (7, .int .i64 b), (8, .int .i64 k), (9, .pointer (some ⟨g9, 0, none⟩)), (10, .int .i64 q), (11, .slice A66 (readsL i).length c66), (12, .int .i64 j)] ∧
            [row (.slice A66 (readsL i).length c66) 3 1 (readsL i).length (ints (readsL i)), blk g9 (.cells x.cells.toArray 50), blk g5 (.cells (encV S') 47), blk g2 (.cells f.cells.toArray 43)] = L) (n := (readsL i).length) ⟨0, rfl, Nat.zero_le _, ⟨rfl, rfl, rfl, rfl, rfl, rfl, rfl, rfl, rfl, trivial⟩, rfl⟩ ?_
          rintro _ σ L ⟨j, rfl, hj, hs, rfl⟩
          refine Cd.has hs ?_
          clear hs
          refine Cd.seq ?_
          refine Cd.seq ?_
          refine Cd.region ?_
          refine Ol.p mvi ?_
          refine Ol.p mvs ?_
          refine Ol.p (lens sl_L_int) ?_
          refine Ol.p lsi ?_
          refine Ol.nil ?_
          refine Cd.cond rfl (fun h2 => ?_) (fun h2 => ?_)
          · have hjl : j < (readsL i).length := by
              simp only [decide_eq_true_eq] at h2; omega
            obtain ⟨n, hn⟩ : ∃ n, (readsL i)[j]? = some n := ⟨_, List.getElem?_eq_getElem hjl⟩
            have hnm := List.mem_of_getElem? hn
            have hnr := readsL_mem hnm
            obtain ⟨m, rfl⟩ : ∃ m : Nat, n = (m : Int) := ⟨n.toNat, by omega⟩
            have hSm : S' m = true := by
              cases hc : S' m with
              | true => rfl
              | false =>
                obtain ⟨h5, h6⟩ := hbr m hc
                refine absurd h5 ?_
                have := hsafe (m : Int) (exposed_mid hi (fun j' hj' i' hi' e => h6 j' hj' i' hi' (by rw [e]; simp)) hnm)
                simpa using this
            refine Cd.skip ?_
            refine Cd.seq ?_
            refine Cd.block ?_
            refine Cd.seq ?_
            refine Cd.region ?_
            refine Ol.p mvs ?_
            refine Ol.p mvi ?_
            refine Ol.p (ixn1 (ix := j) sl_L_int (Som.row (i := 0) rfl (by omega))) ?_
            refine Ol.p (ld one_int (Rd.row (i := 0) rfl (ints_at hn))) ?_
            refine Ol.p (ixl1 (ix := m) ar_A201_bool) ?_
            refine Ol.p (ld one_bool (Rd.blk (i := 2) rfl (encV_get (i := m) (by omega)))) ?_
            refine Ol.p noti ?_
            refine Ol.nil ?_
            refine Cd.cond rfl (fun h3 => by rw [hSm] at h3; cases h3) (fun h3 => ?_)
            refine Cd.skip ?_
            refine Cd.region ?_
            refine Ol.p mvi ?_
            refine Ol.p addi ?_
            refine Ol.p asi ?_
            refine Ol.nil ?_
            exact ⟨(readsL i).length - (j + 1), by omega, j + 1, rfl, by omega, ⟨rfl, rfl, rfl, rfl, rfl, rfl, rfl, rfl, rfl, trivial⟩, rfl⟩
          refine Cd.keep (.sub (.cons _ (List.Sublist.refl _))) ?_
          exact Cd.exit (id := 6) ⟨⟨rfl, rfl, rfl, rfl, rfl, rfl, rfl, trivial⟩, rfl⟩
        rintro σ' _ ⟨hs', rfl⟩
        refine Cd.has hs' ?_
        clear hs'
        refine Cd.region ?_
        refine Ol.p (fdl fd_api_Block_0) ?_
        refine Ol.p (ld one_L_api_Ins (Rd.blk (i := 0) rfl rfl)) ?_
        refine Ol.p mvi ?_
        refine Ol.p (ixn (ix := q) sl_L_api_Ins (Som.slc (hf.ins x hxm) (by omega))) ?_
        refine Ol.p (lds (es := i.cells) ag_api_Ins (hf.ins x hxm) i.len (fun j u hu => ins_cell hi hu)) ?_
        refine Ol.s (cl (v := .int .i64 (dn : Int)) en_ir_Defines (fun M w' hh => by have := ir_Defines_ct (hia hh); rw [hdn] at this; exact this)) ?_
        refine Ol.p (ixl1 (ix := dn) ar_A201_bool) ?_
        refine Ol.s (sto (v := .bool true) (i := 1) (k := dn) (.inr sz_bool) rfl rfl rfl (by rw [encV_size]; omega) rfl) ?_
        refine Ol.nil ?_
        rw [encV_set]
        refine Cd.region ?_
        refine Ol.p mvi ?_
        refine Ol.p addi ?_
        refine Ol.p asi ?_
        refine Ol.nil ?_
        refine ⟨x.ins.length - (q + 1), by omega, q + 1, putV S' dn true, rfl, by omega, fun v hv => ?_, ⟨rfl, rfl, rfl, rfl, rfl, rfl, rfl, trivial⟩, rfl⟩
        unfold putV at hv
        by_cases e : v = dn
        · rw [if_pos e] at hv; cases hv
        · rw [if_neg e] at hv
          obtain ⟨h5, h6⟩ := hbr v hv
          refine ⟨h5, fun j hj i' hi' => ?_⟩
          by_cases ej : j = q
          · subst ej
            rw [hi] at hi'; cases hi'
            rw [hdn]; simpa using fun e2 => e e2.symm
          · exact h6 j (by omega) i' hi'
      have hqe : q = x.ins.length := by
        simp only [decide_eq_false_iff_not] at h; omega
      refine Cd.exit (id := 4) ⟨S', fun v hv => ⟨(hbr v hv).1, fun i hi => ?_⟩, ⟨rfl, rfl, rfl, rfl, rfl, rfl, trivial⟩, rfl⟩
      obtain ⟨j, hj⟩ := List.mem_iff_getElem?.1 hi
      exact (hbr v hv).2 j (by rw [hqe]; exact (List.getElem?_eq_some_iff.1 hj).1) i hj
    clear hbare
    rintro σ' _ ⟨S', hbr, hs', rfl⟩
    refine Cd.has hs' ?_
    clear hs'
    refine Cd.seq ?_
    refine Cd.region ?_
    refine Ol.p (fdl fd_api_Block_1) ?_
    refine Ol.p (ldp (k := 0 + 1) (vs := x.term.cells.toArray) ag_api_Term (i := 0) rfl rfl (fun j u hu => by rw [Nat.zero_add, Nat.add_comm]; simpa [RBlk.cells] using hu)) ?_
    refine Ol.x (sp_call en_ir_Needs (fun M w' hh => ir_Needs_ct (t := x.term))) ?_
    rintro _ _ ⟨_, rfl, A89, c89, rfl, rfl⟩
    refine Ol.p ass ?_
    refine Ol.nil ?_
    refine Cd.seq ?_
    refine Cd.region ?_
    refine Ol.p (fdl fd_api_Block_1) ?_
    refine Ol.p (ldp (k := 0 + 1) (vs := x.term.cells.toArray) ag_api_Term (i := 1) rfl rfl (fun j u hu => by rw [Nat.zero_add, Nat.add_comm]; simpa [RBlk.cells] using hu)) ?_
    refine Ol.x (sp_call en_ir_To (fun M w' hh => ir_To_ct (t := x.term))) ?_
    rintro _ _ ⟨_, rfl, A92, c92, rfl, rfl⟩
    refine Ol.p ass ?_
    refine Ol.nil ?_
    refine Cd.seq ?_
    refine Cd.mid (fun σ' L' => Has σ' [(1, .slice Aw way.length cw), (2, .pointer (some ⟨g2, 0, none⟩)), (5, .pointer (some ⟨g5, 0, none⟩)), (8, .int .i64 k), (14, .slice A92 (toL x.term).length c92), (103, .bool false)] ∧
      [row (.slice A92 (toL x.term).length c92) 3 1 (toL x.term).length (ints (toL x.term)), blk g5 (.cells (encV S') 47), blk g2 (.cells f.cells.toArray 43)] = L') ?_ ?_
    · cases hn0 : decide ((0 : Int) < ((needsL x.term).length : Int)) with
      | false =>
        refine Cd.region ?_
        refine Ol.p mvs ?_
        refine Ol.p (lens sl_L_int) ?_
        refine Ol.p gti ?_
        refine Ol.p mvb ?_
        refine Ol.gn hn0 ?_
        refine Ol.gn hn0 ?_
        refine Ol.gn hn0 ?_
        refine Ol.gn hn0 ?_
        refine Ol.gn hn0 ?_
        refine Ol.gn hn0 ?_
        refine Ol.p (pkFb hn0) ?_
        refine Ol.keep (.sub (.cons_cons _ (.cons _ (.cons _ (List.Sublist.refl _))))) ?_
        refine Ol.nil ?_
        exact ⟨⟨rfl, rfl, rfl, rfl, rfl, rfl, trivial⟩, rfl⟩
      | true =>
        have hnl0 : 0 < (needsL x.term).length := by
          simp only [decide_eq_true_eq] at hn0; omega
        obtain ⟨n, hn⟩ : ∃ n, (needsL x.term)[0]? = some n := ⟨_, List.getElem?_eq_getElem hnl0⟩
        have hnm := List.mem_of_getElem? hn
        have hnr := needsL_mem hnm
        obtain ⟨m, rfl⟩ : ∃ m : Nat, n = (m : Int) := ⟨n.toNat, by omega⟩
        have hSm : S' m = true := by
          cases hc : S' m with
          | true => rfl
          | false =>
            obtain ⟨h5, h6⟩ := hbr m hc
            refine absurd h5 ?_
            have := hsafe (m : Int) (exposed_end (fun i' hi' e => h6 i' hi' (by rw [e]; simp)) hnm)
            simpa using this
        refine Cd.region ?_
        refine Ol.p mvs ?_
        refine Ol.p (lens sl_L_int) ?_
        refine Ol.p gti ?_
        refine Ol.p mvb ?_
        refine Ol.gp hn0 mvs ?_
        refine Ol.gp hn0 (ixn1 (ix := 0) sl_L_int (Som.row (i := 1) rfl hnl0)) ?_
        refine Ol.gp hn0 (ld one_int (Rd.row (i := 1) rfl (ints_at hn))) ?_
        refine Ol.gp hn0 (ixl1 (ix := m) ar_A201_bool) ?_
        refine Ol.gp hn0 (ld one_bool (Rd.blk (i := 3) rfl (encV_get (i := m) (by omega)))) ?_
        refine Ol.gp hn0 noti ?_
        refine Ol.p (pkTb hn0) ?_
        refine Ol.keep (.sub (.cons_cons _ (.cons _ (.cons _ (List.Sublist.refl _))))) ?_
        refine Ol.nil ?_
        exact ⟨⟨rfl, rfl, rfl, rfl, rfl, by show Value.bool _ = _; rw [hSm]; rfl, trivial⟩, rfl⟩
    rintro σ' _ ⟨hs', rfl⟩
    refine Cd.has hs' ?_
    clear hs'
    refine Cd.cond rfl (fun h => by cases h) (fun h => ?_)
    refine Cd.skip ?_
    refine Cd.seq ?_
    refine Cd.seq ?_
    cases hz : decide (((toL x.term).length : Int) = 0) with
    | true =>
      refine Cd.region ?_
      refine Ol.p mvs ?_
      refine Ol.p (lens sl_L_int) ?_
      refine Ol.p eqi ?_
      refine Ol.p mvb ?_
      refine Ol.gn hz ?_
      refine Ol.gn hz ?_
      refine Ol.gn hz ?_
      refine Ol.gn hz ?_
      refine Ol.p (pkTb hz) ?_
      refine Ol.nil ?_
      refine Cd.cond rfl (fun h => ?_) (fun h => by cases h)
      refine Cd.seq ?_
      refine Cd.region ?_
      refine Ol.p asb ?_
      refine Ol.nil ?_
      exact Cd.ret ⟨.bool _, ret1 rfl rfl, [], .nil, rfl, rfl⟩
    | false =>
      refine Cd.region ?_
      refine Ol.p mvs ?_
      refine Ol.p (lens sl_L_int) ?_
      refine Ol.p eqi ?_
      refine Ol.p mvb ?_
      refine Ol.gp hz mvi ?_
      refine Ol.gp hz mvs ?_
      refine Ol.gp hz (lens sl_L_int) ?_
      refine Ol.gp hz eqi ?_
      refine Ol.p (pkFb hz) ?_
      refine Ol.nil ?_
      refine Cd.cond rfl (fun h => ?_) (fun h => ?_)
      · refine Cd.seq ?_
        refine Cd.region ?_
        refine Ol.p asb ?_
        refine Ol.nil ?_
        exact Cd.ret ⟨.bool _, ret1 rfl rfl, [], .nil, rfl, rfl⟩
      have hklt : k < way.length := by
        simp only [decide_eq_false_iff_not] at h; omega
      have hz0 : 0 < (toL x.term).length := by
        simp only [decide_eq_false_iff_not] at hz; omega
      obtain ⟨wv, hwv⟩ : ∃ wv, way[k]? = some wv := ⟨_, List.getElem?_eq_getElem hklt⟩
      obtain ⟨n, hn⟩ : ∃ n, (toL x.term)[pickF wv (toL x.term).length]? = some n := ⟨_, List.getElem?_eq_getElem (pickF_lt hz0)⟩
      have hnm := List.mem_of_getElem? hn
      have hnr := okEs_at hok (a := b) (n := n) (by rw [toAt_some (show f.terms[b]? = some x.term by simp [RFun.terms, hx])]; exact hnm)
      have htl : f.terms.length = f.blocks.length := by simp [RFun.terms]
      obtain ⟨nx, rfl⟩ : ∃ nx : Nat, n = (nx : Int) := ⟨n.toNat, by omega⟩
      have hg2 : decide ((nx : Int) < 1) = false := by rw [decide_eq_false_iff_not]; omega
      refine Cd.skip ?_
      refine Cd.seq ?_
      refine Cd.region ?_
      refine Ol.p mvs ?_
      refine Ol.p mvs ?_
      refine Ol.p mvi ?_
      refine Ol.p (ixn1 (ix := k) sl_L_int (Som.slc hw (by omega))) ?_
      refine Ol.p (ld one_int (Rd.slc hw (ints_at hwv))) ?_
      refine Ol.p mvs ?_
      refine Ol.p (lens sl_L_int) ?_
      refine Ol.s (cl en_kit_Pick (fun M w' hh => kit_Pick_ct (x := wv) (n := (toL x.term).length) hz0 (by omega))) ?_
      refine Ol.p (ixn1 (ix := pickF wv (toL x.term).length) sl_L_int (Som.row (i := 0) rfl hz0) (h := pickF_lt hz0)) ?_
      refine Ol.p (ld one_int (Rd.row (i := 0) rfl (ints_at hn))) ?_
      refine Ol.p asi ?_
      refine Ol.keep (.sub (.cons _ (List.Sublist.refl _))) ?_
      refine Ol.nil ?_
      refine Cd.seq ?_
      refine Cd.region ?_
      refine Ol.p mvi ?_
      refine Ol.p lsi ?_
      refine Ol.p mvb ?_
      refine Ol.gp hg2 mvi ?_
      refine Ol.gp hg2 (fdl fd_api_Func_1) ?_
      refine Ol.gp hg2 (ld one_L_api_Block (Rd.blk (i := 1) rfl rfl)) ?_
      refine Ol.gp hg2 (lens sl_L_api_Block) ?_
      refine Ol.gp hg2 gei ?_
      refine Ol.p (pkFb hg2) ?_
      refine Ol.nil ?_
      refine Cd.cond rfl (fun h => by simp only [decide_eq_true_eq] at h; omega) (fun h => ?_)
      refine Cd.skip ?_
      refine Cd.region ?_
      refine Ol.p mvi ?_
      refine Ol.p addi ?_
      refine Ol.p asi ?_
      refine Ol.nil ?_
      exact ⟨way.length - (k + 1), by omega, k + 1, nx, S', rfl, by omega, by omega, fun v hv => .step (hbr v hv).1 hx (hbr v hv).2 hnm, ⟨rfl, rfl, rfl, rfl, rfl, trivial⟩, rfl⟩
  rintro σ' L' _
  refine Cd.seq ?_
  refine Cd.region ?_
  refine Ol.p asb ?_
  refine Ol.nil ?_
  exact Cd.ret ⟨.bool _, ret1 rfl rfl, [], .nil, rfl, rfl⟩
end
end Go.Proofs.Ytcojedoejpcolaa

/- Plain law: a function whose variables are renamed, one to one. -/
namespace Go.Proofs.Ytcojedoejpcolaa
set_option linter.unusedVariables false
open Go Go.RowKit

/-- A renaming: none stays, variables go to variables, one to one, all of them. -/
structure Rnm (r : Int → Int) (rN : Nat → Nat) : Prop where
  var : ∀ n, varB (r n) = varB n
  stay : ∀ n, varB n = false → r n = n
  inj : ∀ a b, r a = r b → a = b
  onto : ∀ n, ∃ m, r m = n
  nat : ∀ n : Nat, r (n : Int) = ((rN n : Nat) : Int)
section
variable {r : Int → Int} {rN : Nat → Nat}
theorem Rnm.zero (h : Rnm r rN) : r 0 = 0 := h.stay 0 (by decide)
theorem Rnm.iff0 (h : Rnm r rN) (n : Int) : r n = 0 ↔ n = 0 := ⟨fun e => h.inj n 0 (by rw [e, h.zero]), fun e => by rw [e, h.zero]⟩
theorem Rnm.dec0 (h : Rnm r rN) (n : Int) : decide (r n = 0) = decide (n = 0) := by rw [decide_eq_decide]; exact h.iff0 n
theorem Rnm.fits (h : Rnm r rN) (b : Bool) (n : Int) : fitsB b (r n) = fitsB b n := by
  unfold fitsB
  cases b
  · rw [cond_false, cond_false, h.dec0]
  · rw [cond_true, cond_true, h.var]
def renT (r : Int → Int) (t : Tm) : Tm := { t with a := r t.a }
def renI (r : Int → Int) (i : RIns) : RIns := { i with dst := r i.dst, a := r i.a, b := r i.b, args := i.args.map r }
def renB (r : Int → Int) (b : RBlk) : RBlk := { b with ins := b.ins.map (renI r), term := renT r b.term }
def renF (r : Int → Int) (f : RFun) : RFun := { f with params := f.params.map r, blocks := f.blocks.map (renB r) }
theorem isTerm_ren (h : Rnm r rN) (t : Tm) : isTerm (renT r t) = isTerm t := by
  unfold isTerm renT noneB
  simp only [List.all_cons, List.all_nil, h.dec0, h.var, h.fits]
theorem toL_ren (h : Rnm r rN) (t : Tm) : toL (renT r t) = toL t := by
  unfold toL
  rw [isTerm_ren h]
  rfl
theorem needsL_ren (h : Rnm r rN) (t : Tm) : needsL (renT r t) = (needsL t).map r := by
  unfold needsL
  rw [isTerm_ren h]
  show (bif isTerm t && !decide (r t.a = 0) then [r t.a] else []) = _
  rw [h.dec0]
  cases isTerm t && !decide (t.a = 0) <;> rfl
theorem isIns_ren (h : Rnm r rN) (i : RIns) : isIns (renI r i) = isIns i := by
  unfold isIns renI noneB
  simp only [List.all_cons, List.all_nil, h.dec0, h.var, h.fits, List.length_map, List.all_map, Function.comp_def]
theorem readsL_ren (h : Rnm r rN) (i : RIns) : readsL (renI r i) = (readsL i).map r := by
  unfold readsL
  rw [isIns_ren h]
  cases isIns i with
  | false => rfl
  | true =>
    rw [cond_true, cond_true, List.map_append]
    congr 1
    show [r i.a, r i.b].filter (fun n => !decide (n = 0)) = _
    simp only [List.filter_cons, List.filter_nil, h.dec0]
    cases decide (i.a = 0) <;> cases decide (i.b = 0) <;> simp
theorem defI_ren (h : Rnm r rN) (i : RIns) : defI (renI r i) = r (defI i) := by
  unfold defI
  rw [isIns_ren h]
  cases isIns i with
  | false => rw [cond_false, cond_false, h.zero]
  | true => rfl
theorem mem_ren (h : Rnm r rN) {l : List Int} {v : Int} : r v ∈ l.map r ↔ v ∈ l := by
  rw [List.mem_map]
  exact ⟨fun ⟨m, hm, e⟩ => h.inj _ _ e ▸ hm, fun hv => ⟨v, hv, rfl⟩⟩
theorem exposed_ren (h : Rnm r rN) : ∀ (l : List RIns) (t : Tm) (v : Int), exposed (l.map (renI r)) (renT r t) (r v) = exposed l t v
  | [], t, v => by
    show (needsL (renT r t)).contains (r v) = (needsL t).contains v
    rw [needsL_ren h, Bool.eq_iff_iff, List.contains_iff_mem, List.contains_iff_mem, mem_ren h]
  | i :: l, t, v => by
    show ((readsL (renI r i)).contains (r v) || (!decide (defI (renI r i) = r v) && exposed (l.map (renI r)) (renT r t) (r v))) = ((readsL i).contains v || (!decide (defI i = v) && exposed l t v))
    rw [exposed_ren h l t v, readsL_ren h, defI_ren h]
    have e1 : ((readsL i).map r).contains (r v) = (readsL i).contains v := by rw [Bool.eq_iff_iff, List.contains_iff_mem, List.contains_iff_mem, mem_ren h]
    have e2 : decide (r (defI i) = r v) = decide (defI i = v) := by rw [decide_eq_decide]; exact ⟨h.inj _ _, fun e => by rw [e]⟩
    rw [e1, e2]
theorem terms_ren (f : RFun) : (renF r f).terms = f.terms.map (renT r) := by
  unfold RFun.terms renF
  rw [List.map_map, List.map_map]; rfl
theorem toAt_ren (h : Rnm r rN) (ts : List Tm) (b : Nat) : toAt (ts.map (renT r)) b = toAt ts b := by
  unfold toAt
  rw [List.getElem?_map]
  cases ts[b]? with
  | none => rfl
  | some t => exact toL_ren h t
theorem okEs_ren (h : Rnm r rN) (ts : List Tm) : okEs (ts.map (renT r)) = okEs ts := by
  unfold okEs
  rw [List.all_map, List.length_map]
  congr 1
  funext t
  simp only [Function.comp, toL_ren h]
theorem dfs_congr {ts ts' : List Tm} (h : ∀ b, toAt ts' b = toAt ts b) : ∀ (n b : Nat) (st : Dst), dfs ts' n b st = dfs ts n b st
  | 0, _, _ => rfl
  | n + 1, b, st => by
    have : (fun st (t : Int) => dfs ts' n t.toNat st) = fun st t => dfs ts n t.toNat st := by funext st t; exact dfs_congr h n _ st
    show (bif st.1.testBit b then st else _) = (bif st.1.testBit b then st else _)
    rw [h b]
    simp only [this]
theorem edgesTo_ren (h : Rnm r rN) (ts : List Tm) : ∀ k, edgesTo (ts.map (renT r)) k = edgesTo ts k
  | 0 => by rw [edgesTo_zero, edgesTo_zero]
  | k + 1 => by
    cases ht : ts[k]? with
    | none =>
      have hl : ts.length ≤ k := by simpa using ht
      have e : ∀ us : List Tm, us.length ≤ k → edgesTo us (k + 1) = edgesTo us k := fun us hu => by
        unfold edgesTo; rw [List.take_of_length_le (by omega), List.take_of_length_le hu]
      rw [e _ (by simpa using hl), e _ hl, edgesTo_ren h ts k]
    | some t =>
      rw [edgesTo_succ ht, edgesTo_succ (t := renT r t) (by rw [List.getElem?_map, ht]; rfl), edgesTo_ren h ts k, toL_ren h]
theorem orderF_ren (h : Rnm r rN) (ts : List Tm) : orderF (ts.map (renT r)) = orderF ts := by
  have hc : closed (ts.map (renT r)) = closed ts := by
    unfold closed edges
    rw [List.length_map, edgesTo_ren h]
  unfold orderF
  rw [hc, List.length_map, dfs_congr (toAt_ren h ts)]
theorem longF_ren (f : RFun) : longF (renF r f) = longF f := by
  unfold longF renF
  simp only [List.length_map, List.any_map]
  congr 1
  apply congrArg
  funext b
  simp [Function.comp, renB]
theorem nodup_ren (h : Rnm r rN) {l : List Int} : (l.map r).Nodup ↔ l.Nodup := by
  unfold List.Nodup
  rw [List.pairwise_map]
  exact ⟨fun hn => hn.imp fun hne e => hne (by rw [e]), fun hn => hn.imp fun hne e => hne (h.inj _ _ e)⟩
theorem wholeF_ren (h : Rnm r rN) (f : RFun) : wholeF (renF r f) = wholeF f := by
  unfold wholeF renF
  simp only [List.all_map]
  have e1 : decide (f.params.map r).Nodup = decide f.params.Nodup := by rw [decide_eq_decide]; exact nodup_ren h
  have e2 : (varB ∘ r) = varB := by funext n; exact h.var n
  have e3 : (wholeB ∘ renB r) = wholeB := by
    funext b
    simp only [Function.comp, wholeB, renB, isTerm_ren h, List.all_map]
    congr 1
    apply congrArg
    funext i
    exact isIns_ren h i
  rw [e1, e2, e3]
theorem blk_ren {f : RFun} {b : Nat} {x : RBlk} (h : f.blocks[b]? = some x) : (renF r f).blocks[b]? = some (renB r x) := by
  unfold renF
  rw [List.getElem?_map, h]; rfl
theorem blk_unren {f : RFun} {b : Nat} {x : RBlk} (h : (renF r f).blocks[b]? = some x) : ∃ y, f.blocks[b]? = some y ∧ x = renB r y := by
  unfold renF at h
  rw [List.getElem?_map] at h
  cases hb : f.blocks[b]? with
  | none => rw [hb] at h; cases h
  | some y => rw [hb] at h; exact ⟨y, rfl, (Option.some.inj h).symm⟩
theorem Rnm.toNat (h : Rnm r rN) {n : Int} (hn : 0 ≤ n) : (r n).toNat = rN n.toNat := by
  have := h.nat n.toNat
  rw [Int.toNat_of_nonneg hn] at this
  rw [this]; simp
theorem Rnm.injN (h : Rnm r rN) {a b : Nat} (e : rN a = rN b) : a = b := by
  have h1 := h.nat a
  have h2 := h.nat b
  have : ((a : Nat) : Int) = b := h.inj _ _ (by rw [h1, h2, e])
  omega
theorem Bare_ren (h : Rnm r rN) {f : RFun} {v b : Nat} (hp : ∀ p ∈ f.params, 0 ≤ p) : Bare (renF r f) (rN v) b ↔ Bare f v b := by
  have hd : ∀ i : RIns, (defI (renI r i)).toNat = rN v ↔ (defI i).toNat = v := fun i => by
    rw [defI_ren h, h.toNat (defI_range i).1]
    exact ⟨h.injN, fun e => by rw [e]⟩
  constructor
  · intro hb
    induction hb with
    | zero hz =>
      refine .zero fun p hpm e => hz (r p) (List.mem_map_of_mem hpm) ?_
      rw [h.toNat (hp p hpm), e]
    | step _ ha hx ht ih =>
      obtain ⟨y, hy, rfl⟩ := blk_unren ha
      refine .step ih hy (fun i hi e => hx (renI r i) (List.mem_map_of_mem hi) ((hd i).2 e)) ?_
      rw [show (renB r y).term = renT r y.term from rfl, toL_ren h] at ht
      exact ht
  · intro hb
    induction hb with
    | zero hz =>
      refine .zero fun p hpm e => ?_
      obtain ⟨q, hq, rfl⟩ := List.mem_map.1 hpm
      rw [h.toNat (hp q hq)] at e
      exact hz q hq (h.injN e)
    | step _ ha hx ht ih =>
      refine .step ih (blk_ren ha) (fun i hi e => ?_) (by rw [show (renB r _).term = renT r _ from rfl, toL_ren h]; exact ht)
      obtain ⟨j, hj, rfl⟩ := List.mem_map.1 hi
      exact hx j hj ((hd j).1 e)
theorem valuedF_ren (h : Rnm r rN) {f : RFun} (hp : ∀ p ∈ f.params, 0 ≤ p) : valuedF (renF r f) = valuedF f := by
  rw [Bool.eq_iff_iff, valuedF_iff, valuedF_iff]
  constructor
  · intro hv b x v hx he hb
    have hr := exposed_range he
    refine hv b (renB r x) (r v) (blk_ren hx) (by show exposed (x.ins.map (renI r)) (renT r x.term) (r v) = true; rw [exposed_ren h]; exact he) ?_
    rw [h.toNat (by omega)]
    exact (Bare_ren h hp).2 hb
  · intro hv b x v hx he hb
    obtain ⟨y, hy, rfl⟩ := blk_unren hx
    obtain ⟨u, rfl⟩ := h.onto v
    have he2 : exposed y.ins y.term u = true := by rw [← exposed_ren h]; exact he
    have hr := exposed_range he2
    rw [h.toNat (by omega)] at hb
    exact hv b y u hy he2 ((Bare_ren h hp).1 hb)
theorem rightF_ren (h : Rnm r rN) (f : RFun) : rightF (renF r f) = rightF f := by
  unfold rightF
  rw [longF_ren, wholeF_ren h, terms_ren, okEs_ren h, orderF_ren h, show (renF r f).blocks.length = f.blocks.length by simp [renF]]
  cases hw : wholeF f with
  | false => rfl
  | true =>
    have hp : ∀ p ∈ f.params, 0 ≤ p := fun p hp => by have := whole_params hw p hp; omega
    rw [valuedF_ren h hp]
theorem noteI_ren (h : Rnm r rN) (i : RIns) : noteI (renI r i) = (noteI i).map r := by
  unfold noteI
  rw [readsL_ren h, defI_ren h]; simp
theorem noteF_ren (h : Rnm r rN) (f : RFun) : noteF (renF r f) = (noteF f).map r := by
  unfold noteF renF
  rw [List.map_append]
  congr 1
  rw [List.flatMap_map, List.map_flatMap]
  congr 1
  funext b
  unfold noteB renB
  rw [List.map_append, needsL_ren h, List.flatMap_map, List.map_flatMap]
  congr 2
  funext i
  exact noteI_ren h i
theorem okF_ren (h : Rnm r rN) (f : RFun) : okF (renF r f) = okF f := by
  unfold okF
  rw [longF_ren, wholeF_ren h]
theorem sizeF_ren (h : Rnm r rN) (f : RFun) : sizeF (renF r f) = sizeF f := by
  unfold sizeF
  rw [okF_ren h]
  congr 2
  unfold renF
  rw [List.map_map]
  apply List.map_congr_left
  intro b _
  simp [Function.comp, renB]
theorem noteF_pos {f : RFun} (h : okF f = true) : ∀ n ∈ noteF f, 0 ≤ n := fun n hn => by
  unfold noteF at hn
  rcases List.mem_append.1 hn with hn | hn
  · have := whole_params (ok_parts h).2 n hn; omega
  · obtain ⟨b, _, hb⟩ := List.mem_flatMap.1 hn
    unfold noteB at hb
    rcases List.mem_append.1 hb with hb | hb
    · obtain ⟨i, _, hi⟩ := List.mem_flatMap.1 hb
      exact (noteI_range hi).1
    · have := needsL_mem hb; omega
theorem varsF_mem_ren (h : Rnm r rN) {f : RFun} {v : Nat} (hv : v ∈ varsF f) : rN v ∈ varsF (renF r f) := by
  obtain ⟨h1, h2, n, hn, e⟩ := mem_varsF.1 hv
  have hn0 := noteF_pos h1 n hn
  have hvar : varB (r (v : Int)) = true := by rw [h.var, varB_iff]; omega
  rw [h.nat, varB_iff] at hvar
  refine mem_varsF.2 ⟨by rw [okF_ren h]; exact h1, by omega, r n, by rw [noteF_ren h]; exact List.mem_map_of_mem hn, ?_⟩
  rw [h.toNat hn0, e]
theorem varsF_nodup (f : RFun) : (varsF f).Nodup := by
  unfold varsF
  split
  · unfold varsTo
    exact List.Pairwise.filter _ List.nodup_range'
  · exact List.nodup_nil
theorem varsF_len_ren (h : Rnm r rN) (f : RFun) : (varsF (renF r f)).length = (varsF f).length := by
  apply Nat.le_antisymm
  · have key : ∀ v ∈ varsF (renF r f), v ∈ (varsF f).map rN := fun v hv => by
      obtain ⟨h1, h2, n, hn, e⟩ := mem_varsF.1 hv
      rw [okF_ren h] at h1
      rw [noteF_ren h] at hn
      obtain ⟨m, hm, rfl⟩ := List.mem_map.1 hn
      have hm0 := noteF_pos h1 m hm
      rw [h.toNat hm0] at e
      refine List.mem_map.2 ⟨m.toNat, mem_varsF.2 ⟨h1, ?_, m, hm, rfl⟩, e⟩
      have : varB (r (m.toNat : Int)) = true := by rw [h.nat, e, varB_iff]; omega
      rw [h.var, varB_iff] at this
      omega
    have := nodup_le _ _ (varsF_nodup _) key
    simpa using this
  · have hn : ((varsF f).map rN).Nodup := by
      have := varsF_nodup f
      unfold List.Nodup at this ⊢
      rw [List.pairwise_map]
      exact this.imp fun hne e => hne (h.injN e)
    have := nodup_le _ (varsF (renF r f)) hn fun v hv => by
      obtain ⟨u, hu, rfl⟩ := List.mem_map.1 hv
      exact varsF_mem_ren h hu
    simpa using this
end
/-- The renaming of the law. -/
def shiftI (k : Nat) (v : Int) : Int := if v < 1 ∨ 200 < v then v else (v - 1 + k) % 200 + 1
def shiftN (k v : Nat) : Nat := if v < 1 ∨ 200 < v then v else (v - 1 + k) % 200 + 1
theorem shift_rnm {k : Nat} (hk : k < 200) : Rnm (shiftI k) (shiftN k) := by
  have hv : ∀ n, varB (shiftI k n) = varB n := fun n => by
    unfold shiftI
    split
    · rfl
    · rw [Bool.eq_iff_iff, varB_iff, varB_iff]; omega
  refine ⟨hv, fun n hn => ?_, fun a b e => ?_, fun n => ?_, fun n => ?_⟩
  · unfold shiftI
    rw [if_pos]
    rw [← Bool.not_eq_true, varB_iff] at hn
    omega
  · unfold shiftI at e
    split at e <;> split at e <;> omega
  · by_cases h : n < 1 ∨ 200 < n
    · exact ⟨n, by unfold shiftI; rw [if_pos h]⟩
    · refine ⟨(n - 1 + (200 - k)) % 200 + 1, ?_⟩
      unfold shiftI
      rw [if_neg (by omega)]
      omega
  · unfold shiftI shiftN
    by_cases h : n < 1 ∨ 200 < n
    · rw [if_pos h, if_pos (by omega)]
    · rw [if_neg h, if_neg (by omega)]
      omega
end Go.Proofs.Ytcojedoejpcolaa

/- A function in memory of its own: what is held of it; copies, walked. -/
namespace Go.Proofs.Ytcojedoejpcolaa
set_option linter.unusedVariables false
open Go Go.RowKit
set_option maxRecDepth 100000

def insRes (i : RIns) : Res := row (.slice i.aA i.args.length i.aC) 3 1 i.args.length (ints i.args)
def insRow (b : RBlk) : Res := row (.slice b.iA b.ins.length b.iC) 25 8 b.ins.length (b.ins.flatMap RIns.cells)
def blkRes (b : RBlk) : List Res := insRow b :: b.ins.map insRes
def prmRow (f : RFun) : Res := row (.slice f.pA f.params.length f.pC) 3 1 f.params.length (ints f.params)
def blkRow (f : RFun) : Res := row (.slice f.bA f.blocks.length f.bC) 50 5 f.blocks.length (f.blocks.flatMap RBlk.cells)
def funRes (f : RFun) : List Res := prmRow f :: blkRow f :: f.blocks.flatMap blkRes
theorem mem_blkRes {f : RFun} {b : RBlk} {r : Res} (hb : b ∈ f.blocks) (hr : r ∈ blkRes b) : r ∈ funRes f := by
  unfold funRes
  exact List.mem_cons_of_mem _ (List.mem_cons_of_mem _ (List.mem_flatMap.2 ⟨b, hb, hr⟩))
section
variable {w0 w : World} {B : Nat} {M L : List Res} {g : RFun}
theorem FunAt.own (hh : Hp w0 B (M ++ L) w) (hs : ∀ r ∈ funRes g, r ∈ L) : FunAt w w.heap.size g := by
  have key : ∀ {A : Option Addr} {n c e s : Nat} {xs : List Value}, row (.slice A n c) e s n xs ∈ funRes g → Reads w w.heap.size s A n xs := fun hm => by
    obtain ⟨i, hi⟩ := List.mem_iff_getElem?.1 (hs _ hm)
    exact Reads.row hh hi
  exact ⟨key (List.mem_cons_self ..), key (List.mem_cons_of_mem _ (List.mem_cons_self ..)), fun b hb => key (mem_blkRes hb (List.mem_cons_self ..)), fun b hb i hi => key (mem_blkRes hb (List.mem_cons_of_mem _ (List.mem_map_of_mem hi)))⟩
theorem cap_row {A : Option Addr} {n c e s : Nat} {xs : List Value} (h : w.ownsRow 0 e s (.slice A n c) n xs) : n ≤ c := by
  rcases h.2 with ⟨hv, h0⟩ | ⟨g, cap, cur, hv, _, _, hn, _⟩
  · omega
  · injection hv with _ _ hc
    omega
/-- Its numbers are numbers, it is not endless. -/
structure FitC (f : RFun) : Prop where
  params : ∀ n ∈ f.params, -9223372036854775808 ≤ n ∧ n ≤ 9223372036854775807
  plen : f.params.length < 2 ^ 50
  blen : f.blocks.length < 2 ^ 50
  ilen : ∀ b ∈ f.blocks, b.ins.length < 2 ^ 50
  term : ∀ b ∈ f.blocks, ∀ n ∈ [b.term.kind, b.term.a, b.term.t0, b.term.t1], -9223372036854775808 ≤ n ∧ n ≤ 9223372036854775807
  insr : ∀ b ∈ f.blocks, ∀ i ∈ b.ins, ∀ n ∈ [i.op, i.dst, i.a, i.b, i.imm, i.callee, i.many], -9223372036854775808 ≤ n ∧ n ≤ 9223372036854775807
  alen : ∀ b ∈ f.blocks, ∀ i ∈ b.ins, i.args.length < 2 ^ 50
  argr : ∀ b ∈ f.blocks, ∀ i ∈ b.ins, ∀ n ∈ i.args, -9223372036854775808 ≤ n ∧ n ≤ 9223372036854775807
theorem Fit.c {f : RFun} (h : Fit f) : FitC f := ⟨h.params, h.plen, h.blen, h.ilen, h.term, h.insr, h.alen, h.argr⟩
theorem FitC.fit (h : FitC g) (hh : Hp w0 B (M ++ L) w) (hs : ∀ r ∈ funRes g, r ∈ L) : Fit g := by
  have key : ∀ {A : Option Addr} {n c e s : Nat} {xs : List Value}, row (.slice A n c) e s n xs ∈ funRes g → n ≤ c := fun hm => cap_row (hh.has _ (List.mem_append_right _ (hs _ hm)))
  exact ⟨h.params, h.plen, h.blen, key (List.mem_cons_self ..), key (List.mem_cons_of_mem _ (List.mem_cons_self ..)), h.ilen, fun b hb => key (mem_blkRes hb (List.mem_cons_self ..)), h.term, h.insr, h.alen, fun b hb i hi => key (mem_blkRes hb (List.mem_cons_of_mem _ (List.mem_map_of_mem hi))), h.argr⟩
theorem FitC.bare {f : RFun} (h : FitC f) : FitC f.bare := by
  have hb : ∀ b ∈ f.bare.blocks, ∃ y ∈ f.blocks, b = y.bare := fun b hb => by
    obtain ⟨y, hy, e⟩ := List.mem_map.1 hb
    exact ⟨y, hy, e.symm⟩
  have hi : ∀ (y : RBlk), ∀ i ∈ y.bare.ins, ∃ j ∈ y.ins, i = j.bare := fun y i hi => by
    obtain ⟨j, hj, e⟩ := List.mem_map.1 hi
    exact ⟨j, hj, e.symm⟩
  refine ⟨h.params, h.plen, by simpa [RFun.bare] using h.blen, fun b hb' => ?_, fun b hb' => ?_, fun b hb' i hi' => ?_, fun b hb' i hi' => ?_, fun b hb' i hi' => ?_⟩
  · obtain ⟨y, hy, rfl⟩ := hb b hb'
    simpa [RBlk.bare] using h.ilen y hy
  · obtain ⟨y, hy, rfl⟩ := hb b hb'
    exact h.term y hy
  all_goals
    obtain ⟨y, hy, rfl⟩ := hb b hb'
    obtain ⟨j, hj, rfl⟩ := hi y i hi'
    first | exact h.insr y hy j hj | exact h.alen y hy j hj | exact h.argr y hy j hj
theorem FitC.unbare {f : RFun} (h : FitC f.bare) : FitC f := by
  have hb : ∀ b ∈ f.blocks, b.bare ∈ f.bare.blocks := fun b hb => List.mem_map_of_mem hb
  have hi : ∀ (y : RBlk), ∀ i ∈ y.ins, i.bare ∈ y.bare.ins := fun y i hi => List.mem_map_of_mem hi
  exact ⟨h.params, h.plen, by simpa [RFun.bare] using h.blen, fun b hb' => by simpa [RBlk.bare] using h.ilen _ (hb b hb'), fun b hb' => h.term b.bare (hb b hb'), fun b hb' i hi' => h.insr b.bare (hb b hb') i.bare (hi b i hi'), fun b hb' i hi' => h.alen b.bare (hb b hb') i.bare (hi b i hi'), fun b hb' i hi' => h.argr b.bare (hb b hb') i.bare (hi b i hi')⟩
theorem FitC.same {f : RFun} (h : FitC f) (e : g.bare = f.bare) : FitC g := FitC.unbare (e ▸ h.bare)
end
theorem one_flatI (l : List RIns) : ∀ u ∈ l.flatMap RIns.cells, u.oneCell' = true := fun u hu => by
  obtain ⟨i, _, h⟩ := List.mem_flatMap.1 hu
  exact i.one u h
theorem one_flatB (l : List RBlk) : ∀ u ∈ l.flatMap RBlk.cells, u.oneCell' = true := fun u hu => by
  obtain ⟨i, _, h⟩ := List.mem_flatMap.1 hu
  exact i.one u h
theorem one_ints (l : List Int) : ∀ u ∈ ints l, u.oneCell' = true := fun u hu => by
  obtain ⟨n, _, rfl⟩ := List.mem_map.1 hu
  rfl
/-- The place of a row in what is held; written, it is the row of another. -/
theorem flat_set {α β : Type} {F : α → List β} {x x' : α} {q : Nat} {A A' : β} (hA : (F x)[q]? = some A) (hx' : F x' = (F x).set q A') : ∀ {l : List α} {b : Nat}, l[b]? = some x → ∃ j, (l.flatMap F)[j]? = some A ∧ (l.flatMap F).set j A' = (l.set b x').flatMap F
  | [], b, h => by simp at h
  | y :: l, 0, h => by
    have e : y = x := by simpa using h
    subst e
    have hq := (List.getElem?_eq_some_iff.1 hA).1
    refine ⟨q, ?_, ?_⟩
    · rw [List.flatMap_cons, List.getElem?_append_left hq]; exact hA
    · rw [List.flatMap_cons, List.set_append_left _ _ hq, List.set_cons_zero, List.flatMap_cons, hx']
  | y :: l, b + 1, h => by
    obtain ⟨j, h1, h2⟩ := flat_set hA hx' (l := l) (b := b) (by simpa using h)
    refine ⟨(F y).length + j, ?_, ?_⟩
    · rw [List.flatMap_cons, List.getElem?_append_right (by omega)]
      rw [show (F y).length + j - (F y).length = j by omega]; exact h1
    · rw [List.flatMap_cons, List.set_append_right _ _ (by omega), show (F y).length + j - (F y).length = j by omega, h2, List.set_cons_succ, List.flatMap_cons]
/-- A slice's literal of one value of several cells. -/
theorem bs1 {P : Program} {w0 : World} {B : Nat} {σ : Env} {L : List Res} {d : Option Nat} {ty T : TypeId} {pos : String} {af : Array Edge} {gd : Option (Nat × Bool)} {e s b : Nat} {parts : List (Nat × Operand)} {zv v : Value} {cs : List Value} (hT : SlT P T e s b) (hz : ZrT P e zv) (hv : v.cells = cs.toArray) (hs : cs.length = s) (hb : s ≤ 16777216 := by decide) (hp : parts.map (fun p => (p.1, ev σ p.2)) = [(0, v)] := by exact rfl) :
    Sp P w0 B ⟨d, .buildSlice T 1 parts.toArray, ty, pos, af, gd⟩ σ L (NewS e s 1 1 cs L) := by
  have hvs : ∀ u ∈ [v], u.cells.size = s := by
    intro u hu
    simp only [List.mem_singleton] at hu
    rw [hu, hv]; simpa using hs
  have h := bsn (d := d) (ty := ty) (pos := pos) (af := af) (gd := gd) (P := P) (w0 := w0) (B := B) (L := L) [v] hT hz hvs rfl (by simp only [List.length_singleton]; omega) (by simp [maxLen]) hp
  have e1 : [v].flatMap (fun v => v.cells.toList) = cs := by simp [hv]
  rwa [e1] at h
theorem flat_set_at {α β : Type} {F : α → List β} {s : Nat} (hs : ∀ x, (F x).length = s) {c : Nat} {A' : β} {x x' : α} (hc : c < s) (hx' : F x' = (F x).set c A') : ∀ {l : List α} {k : Nat}, l[k]? = some x → (l.flatMap F).set (k * s + c) A' = (l.set k x').flatMap F
  | [], k, h => by simp at h
  | y :: l, 0, h => by
    have e : y = x := by simpa using h
    subst e
    rw [List.flatMap_cons, Nat.zero_mul, Nat.zero_add, List.set_append_left _ _ (by rw [hs]; exact hc), List.set_cons_zero, List.flatMap_cons, hx']
  | y :: l, k + 1, h => by
    have ih := flat_set_at hs hc hx' (l := l) (k := k) (by simpa using h)
    rw [List.flatMap_cons, List.set_append_right _ _ (by rw [hs, Nat.add_mul]; omega), hs, show (k + 1) * s + c - s = k * s + c by rw [Nat.add_mul]; omega, ih, List.set_cons_succ, List.flatMap_cons]
theorem flat_set_same {α β : Type} {F : α → List β} {y y' : α} (hF : F y' = F y) : ∀ {l : List α} {b : Nat}, l[b]? = some y → (l.set b y').flatMap F = l.flatMap F
  | [], b, h => by simp at h
  | z :: l, 0, h => by
    have e : z = y := by simpa using h
    subst e
    rw [List.set_cons_zero, List.flatMap_cons, List.flatMap_cons, hF]
  | z :: l, b + 1, h => by
    rw [List.set_cons_succ, List.flatMap_cons, List.flatMap_cons, flat_set_same hF (l := l) (b := b) (by simpa using h)]
def RFun.with (g : RFun) (bs : List RBlk) : RFun := { g with blocks := bs }
/-- Its instructions' row is written. -/
theorem own_ins {g : RFun} {b : Nat} {y : RBlk} (hb : g.blocks[b]? = some y) : ∃ j, (funRes g)[j]? = some (insRow y) ∧ ∀ l' : List RIns, l'.length = y.ins.length → l'.map insRes = y.ins.map insRes →
    (funRes g).set j (row (.slice y.iA y.ins.length y.iC) 25 8 y.ins.length (l'.flatMap RIns.cells)) = funRes (g.with (g.blocks.set b { y with ins := l' })) := by
  have key : ∀ l' : List RIns, l'.length = y.ins.length → l'.map insRes = y.ins.map insRes → ∃ j, (g.blocks.flatMap blkRes)[j]? = some (insRow y) ∧ (g.blocks.flatMap blkRes).set j (row (.slice y.iA y.ins.length y.iC) 25 8 y.ins.length (l'.flatMap RIns.cells)) = (g.blocks.set b { y with ins := l' }).flatMap blkRes := fun l' h1 h2 => by
    refine flat_set (q := 0) (x := y) (x' := { y with ins := l' }) rfl ?_ hb
    unfold blkRes insRow
    simp only [h1, h2, List.set_cons_zero]
  have hj : ∃ j, (g.blocks.flatMap blkRes)[j]? = some (insRow y) ∧ ∀ A', (g.blocks.flatMap blkRes).set j A' = (g.blocks.take b).flatMap blkRes ++ (A' :: y.ins.map insRes) ++ (g.blocks.drop (b + 1)).flatMap blkRes := by
    have hs := split_at hb
    have e : g.blocks.flatMap blkRes = (g.blocks.take b).flatMap blkRes ++ (insRow y :: y.ins.map insRes) ++ (g.blocks.drop (b + 1)).flatMap blkRes := by
      rw (occs := .pos [1]) [hs]
      rw [List.flatMap_append, List.flatMap_cons, ← List.append_assoc]
      rfl
    refine ⟨((g.blocks.take b).flatMap blkRes).length, ?_, fun A' => ?_⟩
    · rw [e, List.append_assoc, List.getElem?_append_right (Nat.le_refl _)]; simp
    · rw [e, List.append_assoc, List.set_append_right _ _ (Nat.le_refl _)]; simp
  obtain ⟨j, h1, h2⟩ := hj
  refine ⟨j + 2, h1, fun l' h3 h4 => ?_⟩
  show prmRow g :: blkRow g :: (g.blocks.flatMap blkRes).set j _ = _
  have hset : g.blocks.set b { y with ins := l' } = g.blocks.take b ++ { y with ins := l' } :: g.blocks.drop (b + 1) := set_split hb
  have hcells : (g.blocks.set b { y with ins := l' }).flatMap RBlk.cells = g.blocks.flatMap RBlk.cells := flat_set_same (by simp [RBlk.cells, h3]) hb
  unfold funRes
  congr 1
  congr 1
  · unfold blkRow RFun.with
    simp only [hcells, List.length_set]
  · rw [h2]
    show _ = (g.blocks.set b { y with ins := l' }).flatMap blkRes
    rw [hset, List.flatMap_append, List.flatMap_cons, ← List.append_assoc]
    congr 1
    congr 1
    unfold blkRes insRow
    simp only [h3, h4]
/-- An instruction's list is written. -/
theorem own_args {g : RFun} {b q : Nat} {y : RBlk} {i : RIns} (hb : g.blocks[b]? = some y) (hi : y.ins[q]? = some i) : ∃ j, (funRes g)[j]? = some (insRes i) ∧ ∀ ls : List Int, ls.length = i.args.length →
    (funRes g).set j (row (.slice i.aA i.args.length i.aC) 3 1 i.args.length (ints ls)) = funRes (g.with (g.blocks.set b { y with ins := y.ins.set q { i with args := ls } })) := by
  have e : g.blocks.flatMap blkRes = (g.blocks.take b).flatMap blkRes ++ (insRow y :: (y.ins.take q).map insRes) ++ (insRes i :: ((y.ins.drop (q + 1)).map insRes ++ (g.blocks.drop (b + 1)).flatMap blkRes)) := by
    have hs := split_at hb
    have hi2 := split_at hi
    have hbe : blkRes y = insRow y :: ((y.ins.take q).map insRes ++ insRes i :: (y.ins.drop (q + 1)).map insRes) := by
      unfold blkRes
      congr 1
      rw [← List.map_cons, ← List.map_append, ← hi2]
    rw (occs := .pos [1]) [hs]
    rw [List.flatMap_append, List.flatMap_cons, hbe]
    simp
  refine ⟨((g.blocks.take b).flatMap blkRes ++ (insRow y :: (y.ins.take q).map insRes)).length + 2, ?_, fun ls h3 => ?_⟩
  · refine Eq.trans (b := (g.blocks.flatMap blkRes)[((g.blocks.take b).flatMap blkRes ++ (insRow y :: (y.ins.take q).map insRes)).length]?) rfl ?_
    rw [e, List.getElem?_append_right (Nat.le_refl _)]; simp
  · show prmRow g :: blkRow g :: (g.blocks.flatMap blkRes).set _ _ = _
    have hc2 : (y.ins.set q { i with args := ls }).flatMap RIns.cells = y.ins.flatMap RIns.cells := flat_set_same (by simp [RIns.cells, h3]) hi
    have hcells : (g.blocks.set b { y with ins := y.ins.set q { i with args := ls } }).flatMap RBlk.cells = g.blocks.flatMap RBlk.cells := flat_set_same (by simp [RBlk.cells]) hb
    unfold funRes
    congr 1
    congr 1
    · unfold blkRow RFun.with
      simp only [hcells, List.length_set]
    · rw [e, List.set_append_right _ _ (Nat.le_refl _)]
      show _ = (g.blocks.set b { y with ins := y.ins.set q { i with args := ls } }).flatMap blkRes
      rw [set_split hb, List.flatMap_append, List.flatMap_cons]
      have hb2 : blkRes { y with ins := y.ins.set q { i with args := ls } } = insRow y :: ((y.ins.take q).map insRes ++ (row (.slice i.aA i.args.length i.aC) 3 1 i.args.length (ints ls) :: (y.ins.drop (q + 1)).map insRes)) := by
        unfold blkRes
        congr 1
        · unfold insRow
          simp only [List.length_set, hc2]
        · show (y.ins.set q { i with args := ls }).map insRes = _
          rw [set_split hi, List.map_append, List.map_cons]
          congr 2
          unfold insRes
          simp only [h3]
      rw [hb2]
      simp
/-- The row of blocks is written. -/
theorem own_blk {g : RFun} {b : Nat} {y y' : RBlk} (hb : g.blocks[b]? = some y) (hr : blkRes y' = blkRes y) : (funRes g).set 1 (row (.slice g.bA g.blocks.length g.bC) 50 5 g.blocks.length ((g.blocks.set b y').flatMap RBlk.cells)) = funRes (g.with (g.blocks.set b y')) := by
  have h2 : (g.blocks.set b y').flatMap blkRes = g.blocks.flatMap blkRes := flat_set_same hr hb
  unfold funRes
  show prmRow g :: _ :: g.blocks.flatMap blkRes = prmRow g :: blkRow (g.with (g.blocks.set b y')) :: (g.blocks.set b y').flatMap blkRes
  rw [h2]
  unfold blkRow RFun.with
  simp
/-- The k first ones have turned. -/
def turnTo {α : Type} (r : α → α) (l : List α) (k : Nat) : List α := (l.take k).map r ++ l.drop k
theorem turnTo_zero {α : Type} (r : α → α) (l : List α) : turnTo r l 0 = l := by simp [turnTo]
theorem turnTo_all {α : Type} (r : α → α) (l : List α) : turnTo r l l.length = l.map r := by simp [turnTo]
theorem turnTo_len {α : Type} (r : α → α) (l : List α) (k : Nat) : (turnTo r l k).length = l.length := by simp [turnTo]; omega
theorem turnTo_get {α : Type} {r : α → α} {l : List α} {k : Nat} {x : α} (h : l[k]? = some x) : (turnTo r l k)[k]? = some x := by
  have hk := (List.getElem?_eq_some_iff.1 h).1
  unfold turnTo
  have hl : ((l.take k).map r).length = k := by simp; omega
  rw [List.getElem?_append_right (by omega), hl, List.getElem?_drop]
  simpa using h
theorem turnTo_set {α : Type} {r : α → α} {l : List α} {k : Nat} {x : α} (h : l[k]? = some x) : (turnTo r l k).set k (r x) = turnTo r l (k + 1) := by
  have hk := (List.getElem?_eq_some_iff.1 h).1
  unfold turnTo
  have hl : ((l.take k).map r).length = k := by simp; omega
  rw [List.set_append_right _ _ (by omega), hl, Nat.sub_self, List.drop_eq_getElem_cons hk, List.set_cons_zero, take_snoc_ h, List.map_append]
  simp
section
theorem kit_CopyInts_ct {w : World} {A : Option Addr} {c : Nat} {l : List Int} (hl : Reads w w.heap.size 1 A l.length (ints l)) (hlen : l.length < 2 ^ 44) : Ct Try.prog 90 #[.slice A l.length c] w (NewL 3 1 l.length (ints l)) := by
  refine Ct.mk Try.func90 rfl rfl ?_
  refine Cd.nr 3 1 ?_
  refine Cd.seq ?_
  refine Cd.region ?_
  refine Ol.p ass ?_
  refine Ol.nil ?_
  refine Cd.seq ?_
  refine Cd.region ?_
  refine Ol.p ass ?_
  refine Ol.nil ?_
  refine Cd.seq ?_
  refine Cd.region ?_
  refine Ol.p mvs ?_
  refine Ol.p mvs ?_
  refine Ol.x (apn (i := 0) (n := 0) (xs := []) (m := l.length) sl_L_int zr_int rfl (by decide) rfl (Src.slc hl) (one_ints l) (by unfold maxLen; omega) (by omega)) ?_
  rintro _ _ ⟨A', c', rfl, rfl⟩
  refine Ol.p ass ?_
  refine Ol.nil ?_
  rw [Nat.zero_add, List.nil_append]
  exact Cd.ret ⟨_, ret1 rfl rfl, _, .all, A', c', rfl, rfl⟩
end
section
def RIns.at_ (i : RIns) (A : Option Addr) (c : Nat) : RIns := { i with aA := A, aC := c }
theorem RIns.at_bare (i : RIns) (A : Option Addr) (c : Nat) : (i.at_ A c).bare = i.bare := rfl
theorem kit_CopyIns_ct {w : World} {i : RIns} (hl : Reads w w.heap.size 1 i.aA i.args.length (ints i.args)) (hlen : i.args.length < 2 ^ 44) : Ct Try.prog 176 #[i.val] w (fun v R => ∃ A c, v = (i.at_ A c).val ∧ R = [insRes (i.at_ A c)]) := by
  refine Ct.mk Try.func176 rfl rfl ?_
  refine Cd.seq ?_
  refine Cd.region ?_
  refine Ol.x bxg ?_
  rintro _ _ ⟨g1, rfl, rfl⟩
  refine Ol.x (alc zr_api_Ins) ?_
  rintro _ _ ⟨g2, rfl, rfl⟩
  refine Ol.nil ?_
  refine Cd.seq ?_
  refine Cd.region ?_
  refine Ol.p (fdl fd_api_Ins_6) ?_
  refine Ol.p (ld (v := .slice i.aA i.args.length i.aC) one_L_int (Rd.blk (i := 1) rfl rfl)) ?_
  refine Ol.x (sp_call en_kit_CopyInts (fun M w' hh => kit_CopyInts_ct (l := i.args) (hl.now hh) hlen)) ?_
  rintro _ _ ⟨_, rfl, A', c', rfl, rfl⟩
  refine Ol.p (fdl fd_api_Ins_6) ?_
  refine Ol.s (sto (v := .slice A' i.args.length c') (i := 2) (k := 0 + 6) (.inr sz_L_int) rfl rfl rfl (by simp [RIns.cells]) rfl) ?_
  refine Ol.nil ?_
  refine Cd.seq ?_
  refine Cd.region ?_
  refine Ol.p (ldw (cs := (i.at_ A' c').cells.toArray) ag_api_Ins (i := 2) rfl rfl) ?_
  refine Ol.s (stw (vs := (i.at_ A' c').cells.toArray) sz_api_Ins rfl (i.at_ A' c').one (i := 1) rfl rfl) ?_
  refine Ol.nil ?_
  exact Cd.ret ⟨_, retc rfl ag_api_Ins rfl (i := 1) rfl rfl, _, .sub (.cons_cons _ (.cons _ (.cons _ .slnil))), A', c', rfl, rfl⟩
end
section
/-- A row of instructions, copied. -/
def NewIl (l : List RIns) : Value → List Res → Prop := fun v R => ∃ (l' : List RIns) (A : Option Addr) (c : Nat) (X : List Res), l'.map RIns.bare = l.map RIns.bare ∧ v = .slice A l'.length c ∧ X.Perm (l'.map insRes) ∧ R = row (.slice A l'.length c) 25 8 l'.length (l'.flatMap RIns.cells) :: X
set_option maxHeartbeats 2000000 in
theorem kit_CopyRow_ct {w : World} {A : Option Addr} {c : Nat} {l : List RIns} (hl : Reads w w.heap.size 8 A l.length (l.flatMap RIns.cells)) (ha : ∀ i ∈ l, Reads w w.heap.size 1 i.aA i.args.length (ints i.args)) (hlen : l.length < 2 ^ 36) (hal : ∀ i ∈ l, i.args.length < 2 ^ 44) : Ct Try.prog 170 #[.slice A l.length c] w (NewIl l) := by
  refine Ct.mk Try.func170 rfl rfl ?_
  refine Cd.nr 25 8 ?_
  refine Cd.seq ?_
  refine Cd.region ?_
  refine Ol.p ass ?_
  refine Ol.nil ?_
  refine Cd.seq ?_
  refine Cd.region ?_
  refine Ol.p ass ?_
  refine Ol.nil ?_
  refine Cd.seq ?_
  refine Cd.seq ?_
  refine Cd.region ?_
  refine Ol.p asi ?_
  refine Ol.nil ?_
  refine Cd.block ?_
  refine Cd.loop (fun m σ L => ∃ (k : Nat) (l' : List RIns) (A' : Option Addr) (c' : Nat) (X : List Res), m = l.length - k ∧ k ≤ l.length ∧ l'.map RIns.bare = (l.take k).map RIns.bare ∧ X.Perm (l'.map insRes) ∧ Has σ [(0, .slice A l.length c), (3, .slice A' l'.length c'), (4, .int .i64 k)] ∧ row (.slice A' l'.length c') 25 8 l'.length (l'.flatMap RIns.cells) :: X = L) (n := l.length) ⟨0, [], none, 0, [], rfl, Nat.zero_le _, rfl, .refl _, ⟨rfl, rfl, rfl, trivial⟩, rfl⟩ ?_
  rintro _ σ L ⟨k, l', A', c', X, rfl, hk, hbare, hX, hs, rfl⟩
  have hkl : l'.length = k := by
    have := congrArg List.length hbare
    simp at this; omega
  refine Cd.has hs ?_
  clear hs
  refine Cd.seq ?_
  refine Cd.seq ?_
  refine Cd.region ?_
  refine Ol.p mvi ?_
  refine Ol.p mvs ?_
  refine Ol.p (lens sl_L_api_Ins) ?_
  refine Ol.p lsi ?_
  refine Ol.nil ?_
  refine Cd.cond rfl (fun h => ?_) (fun h => ?_)
  · have hlt : k < l.length := by
      simp only [decide_eq_true_eq] at h; omega
    obtain ⟨i, hi⟩ : ∃ i, l[k]? = some i := ⟨_, List.getElem?_eq_getElem hlt⟩
    have him := List.mem_of_getElem? hi
    have hial := hal i him
    refine Cd.skip ?_
    refine Cd.seq ?_
    refine Cd.block ?_
    refine Cd.seq ?_
    refine Cd.region ?_
    refine Ol.p mvs ?_
    refine Ol.p mvi ?_
    refine Ol.p (ixn (ix := k) sl_L_api_Ins (Som.slc hl (by omega))) ?_
    refine Ol.p (lds (es := i.cells) ag_api_Ins hl i.len (fun j u hu => ins_cell hi hu)) ?_
    refine Ol.x (sp_call en_kit_CopyIns (fun M w' hh => kit_CopyIns_ct ((ha i him).now hh) hial)) ?_
    rintro _ _ ⟨_, rfl, Ai, ci, rfl, rfl⟩
    refine Ol.x (alc zr_api_Ins) ?_
    rintro _ _ ⟨g5, rfl, rfl⟩
    refine Ol.s (stw (vs := (i.at_ Ai ci).cells.toArray) sz_api_Ins rfl (i.at_ Ai ci).one (i := 0) rfl rfl) ?_
    refine Ol.nil ?_
    refine Cd.region ?_
    refine Ol.p mvs ?_
    refine Ol.p (ldw (cs := (i.at_ Ai ci).cells.toArray) ag_api_Ins (i := 0) rfl rfl) ?_
    refine Ol.x (bs1 (cs := (i.at_ Ai ci).cells) sl_L_api_Ins zr_api_Ins rfl rfl) ?_
    rintro _ _ ⟨g19, rfl, rfl⟩
    refine Ol.x (apn (i := 3) (m := 1) sl_L_api_Ins zr_api_Ins rfl (by decide) rfl (Src.row (i := 0) rfl rfl) (i.at_ Ai ci).one (by unfold maxLen; omega) (by omega)) ?_
    rintro _ _ ⟨A2, c2, rfl, rfl⟩
    refine Ol.p ass ?_
    refine Ol.keep (keep_count (L' := row (.slice A2 (l'.length + 1) c2) 25 8 (l'.length + 1) (l'.flatMap RIns.cells ++ (i.at_ Ai ci).cells) :: insRes (i.at_ Ai ci) :: X) [row (.slice (some ⟨g19, 0, none⟩) 1 1) 25 8 1 (i.at_ Ai ci).cells, blk g5 (.cells (i.at_ Ai ci).cells.toArray 25)] fun _ x => by simp only [List.set_cons_succ, List.set_cons_zero, List.count_append, List.count_cons, List.count_nil, List.cons_append, List.nil_append]; omega) ?_
    refine Ol.nil ?_
    refine Cd.region ?_
    refine Ol.p mvi ?_
    refine Ol.p addi ?_
    refine Ol.p asi ?_
    refine Ol.nil ?_
    have e1 : l'.length + 1 = (l' ++ [i.at_ Ai ci]).length := by simp
    have e2 : l'.flatMap RIns.cells ++ (i.at_ Ai ci).cells = (l' ++ [i.at_ Ai ci]).flatMap RIns.cells := by simp
    rw [e1, e2]
    refine ⟨l.length - (k + 1), by omega, k + 1, l' ++ [i.at_ Ai ci], A2, c2, insRes (i.at_ Ai ci) :: X, rfl, by omega, ?_, ?_, ⟨rfl, rfl, rfl, trivial⟩, rfl⟩
    · rw [take_snoc_ hi, List.map_append, List.map_append, hbare]; rfl
    · rw [List.map_append]
      exact ((hX.cons _).trans (List.perm_append_singleton _ _).symm)
  have hke : k = l.length := by
    simp only [decide_eq_false_iff_not] at h; omega
  refine Cd.exit (id := 0) ?_
  refine Cd.seq ?_
  refine Cd.region ?_
  refine Ol.p mvs ?_
  refine Ol.p ass ?_
  refine Ol.nil ?_
  exact Cd.ret ⟨_, ret1 rfl rfl, _, .all, l', A', c', X, by rw [hbare, hke, List.take_of_length_le (Nat.le_refl _)], rfl, hX, rfl⟩
end
section
def RBlk.at_ (b : RBlk) (A : Option Addr) (c : Nat) (l : List RIns) : RBlk := { b with iA := A, iC := c, ins := l }
theorem RBlk.at_bare {b : RBlk} {A : Option Addr} {c : Nat} {l : List RIns} (h : l.map RIns.bare = b.ins.map RIns.bare) : (b.at_ A c l).bare = b.bare := by
  unfold RBlk.bare RBlk.at_
  simp only [h]
theorem kit_CopyBlock_ct {w : World} {b : RBlk} (hl : Reads w w.heap.size 8 b.iA b.ins.length (b.ins.flatMap RIns.cells)) (ha : ∀ i ∈ b.ins, Reads w w.heap.size 1 i.aA i.args.length (ints i.args)) (hlen : b.ins.length < 2 ^ 36) (hal : ∀ i ∈ b.ins, i.args.length < 2 ^ 44) : Ct Try.prog 140 #[b.val] w (fun v R => ∃ b' : RBlk, b'.bare = b.bare ∧ v = b'.val ∧ R.Perm (blkRes b')) := by
  refine Ct.mk Try.func140 rfl rfl ?_
  refine Cd.seq ?_
  refine Cd.region ?_
  refine Ol.x bxg ?_
  rintro _ _ ⟨g1, rfl, rfl⟩
  refine Ol.x (alc zr_api_Block) ?_
  rintro _ _ ⟨g2, rfl, rfl⟩
  refine Ol.nil ?_
  refine Cd.seq ?_
  refine Cd.region ?_
  refine Ol.p (fdl fd_api_Block_0) ?_
  refine Ol.p (ld (v := .slice b.iA b.ins.length b.iC) one_L_api_Ins (Rd.blk (i := 1) rfl rfl)) ?_
  refine Ol.x (sp_call en_kit_CopyRow (fun M w' hh => kit_CopyRow_ct (l := b.ins) (hl.now hh) (fun i hi => (ha i hi).now hh) hlen hal)) ?_
  rintro _ _ ⟨_, rfl, l', A', c', X, hb, rfl, hX, rfl⟩
  refine Ol.keep Keep.comm ?_
  refine Ol.p (fdl fd_api_Block_0) ?_
  refine Ol.s (sto (v := .slice A' l'.length c') (i := 1) (k := 0 + 0) (.inr sz_L_api_Ins) rfl rfl rfl (by simp [RBlk.cells]) rfl) ?_
  refine Ol.nil ?_
  refine Cd.seq ?_
  refine Cd.region ?_
  refine Ol.p (ldw (cs := (b.at_ A' c' l').cells.toArray) ag_api_Block (i := 1) rfl rfl) ?_
  refine Ol.s (stw (vs := (b.at_ A' c' l').cells.toArray) sz_api_Block rfl (b.at_ A' c' l').one (i := 0) rfl rfl) ?_
  refine Ol.nil ?_
  exact Cd.ret ⟨_, retc rfl ag_api_Block rfl (i := 0) rfl rfl, _, .sub (.cons _ (.cons _ (List.Sublist.refl _))), b.at_ A' c' l', RBlk.at_bare hb, rfl, hX.cons _⟩
end
section
def NewBl (l : List RBlk) : Value → List Res → Prop := fun v R => ∃ (l' : List RBlk) (A : Option Addr) (c : Nat) (X : List Res), l'.map RBlk.bare = l.map RBlk.bare ∧ v = .slice A l'.length c ∧ X.Perm (l'.flatMap blkRes) ∧ R = row (.slice A l'.length c) 50 5 l'.length (l'.flatMap RBlk.cells) :: X
/-- A list of blocks that can be read from outside. -/
structure BlksIn (w : World) (B : Nat) (A : Option Addr) (l : List RBlk) : Prop where
  row : Reads w B 5 A l.length (l.flatMap RBlk.cells)
  ins : ∀ b ∈ l, Reads w B 8 b.iA b.ins.length (b.ins.flatMap RIns.cells)
  args : ∀ b ∈ l, ∀ i ∈ b.ins, Reads w B 1 i.aA i.args.length (ints i.args)
  len : l.length < 2 ^ 36
  ilen : ∀ b ∈ l, b.ins.length < 2 ^ 36
  alen : ∀ b ∈ l, ∀ i ∈ b.ins, i.args.length < 2 ^ 44
theorem BlksIn.now {w0 w : World} {B : Nat} {A : Option Addr} {l : List RBlk} {L : List Res} (h : BlksIn w0 B A l) (hh : Hp w0 B L w) : BlksIn w w.heap.size A l :=
  ⟨h.row.now hh, fun b hb => (h.ins b hb).now hh, fun b hb i hi => (h.args b hb i hi).now hh, h.len, h.ilen, h.alen⟩
set_option maxHeartbeats 2000000 in
theorem kit_CopyBlocks_ct {w : World} {A : Option Addr} {c : Nat} {l : List RBlk} (hl : BlksIn w w.heap.size A l) : Ct Try.prog 91 #[.slice A l.length c] w (NewBl l) := by
  have hlen := hl.len
  refine Ct.mk Try.func91 rfl rfl ?_
  refine Cd.nr 50 5 ?_
  refine Cd.seq ?_
  refine Cd.region ?_
  refine Ol.p ass ?_
  refine Ol.nil ?_
  refine Cd.seq ?_
  refine Cd.region ?_
  refine Ol.p ass ?_
  refine Ol.nil ?_
  refine Cd.seq ?_
  refine Cd.seq ?_
  refine Cd.region ?_
  refine Ol.p asi ?_
  refine Ol.nil ?_
  refine Cd.block ?_
  refine Cd.loop (fun m σ L => ∃ (k : Nat) (l' : List RBlk) (A' : Option Addr) (c' : Nat) (X : List Res), m = l.length - k ∧ k ≤ l.length ∧ l'.map RBlk.bare = (l.take k).map RBlk.bare ∧ X.Perm (l'.flatMap blkRes) ∧ Has σ [(0, .slice A l.length c), (3, .slice A' l'.length c'), (4, .int .i64 k)] ∧ row (.slice A' l'.length c') 50 5 l'.length (l'.flatMap RBlk.cells) :: X = L) (n := l.length) ⟨0, [], none, 0, [], rfl, Nat.zero_le _, rfl, .refl _, ⟨rfl, rfl, rfl, trivial⟩, rfl⟩ ?_
  rintro _ σ L ⟨k, l', A', c', X, rfl, hk, hbare, hX, hs, rfl⟩
  have hkl : l'.length = k := by
    have := congrArg List.length hbare
    simp at this; omega
  refine Cd.has hs ?_
  clear hs
  refine Cd.seq ?_
  refine Cd.seq ?_
  refine Cd.region ?_
  refine Ol.p mvi ?_
  refine Ol.p mvs ?_
  refine Ol.p (lens sl_L_api_Block) ?_
  refine Ol.p lsi ?_
  refine Ol.nil ?_
  refine Cd.cond rfl (fun h => ?_) (fun h => ?_)
  · have hlt : k < l.length := by
      simp only [decide_eq_true_eq] at h; omega
    obtain ⟨b, hb⟩ : ∃ b, l[k]? = some b := ⟨_, List.getElem?_eq_getElem hlt⟩
    have hbm := List.mem_of_getElem? hb
    refine Cd.skip ?_
    refine Cd.seq ?_
    refine Cd.block ?_
    refine Cd.seq ?_
    refine Cd.region ?_
    refine Ol.p mvs ?_
    refine Ol.p mvi ?_
    refine Ol.p (ixn (ix := k) sl_L_api_Block (Som.slc hl.row (by omega))) ?_
    refine Ol.p (lds (es := b.cells) ag_api_Block hl.row b.len (fun j u hu => blk_cell hb hu)) ?_
    refine Ol.x (sp_call en_kit_CopyBlock (fun M w' hh => kit_CopyBlock_ct (b := b) ((hl.ins b hbm).now hh) (fun i hi => (hl.args b hbm i hi).now hh) (hl.ilen b hbm) (hl.alen b hbm))) ?_
    rintro _ _ ⟨Y, rfl, b', hb', rfl, hY⟩
    refine Ol.keep (L' := [row (.slice A' l'.length c') 50 5 l'.length (l'.flatMap RBlk.cells)] ++ (X ++ blkRes b')) ⟨[], perm_count fun _ x => by
      have := hY.count_eq x
      simp only [List.count_append, List.count_cons, List.cons_append, List.nil_append, List.append_nil]; omega⟩ ?_
    refine Ol.x (alc zr_api_Block) ?_
    rintro _ _ ⟨g5, rfl, rfl⟩
    refine Ol.s (stw (vs := b'.cells.toArray) sz_api_Block rfl b'.one (i := 0) rfl rfl) ?_
    refine Ol.nil ?_
    refine Cd.region ?_
    refine Ol.p mvs ?_
    refine Ol.p (ldw (cs := b'.cells.toArray) ag_api_Block (i := 0) rfl rfl) ?_
    refine Ol.x (bs1 (cs := b'.cells) sl_L_api_Block zr_api_Block rfl rfl) ?_
    rintro _ _ ⟨g19, rfl, rfl⟩
    refine Ol.x (apn (i := 2) (m := 1) sl_L_api_Block zr_api_Block rfl (by decide) rfl (Src.row (i := 0) rfl rfl) b'.one (by unfold maxLen; omega) (by omega)) ?_
    rintro _ _ ⟨A2, c2, rfl, rfl⟩
    refine Ol.p ass ?_
    refine Ol.keep (.sub (.cons _ (.cons _ (List.Sublist.refl _)))) ?_
    refine Ol.nil ?_
    refine Cd.region ?_
    refine Ol.p mvi ?_
    refine Ol.p addi ?_
    refine Ol.p asi ?_
    refine Ol.nil ?_
    have e1 : l'.length + 1 = (l' ++ [b']).length := by simp
    have e2 : l'.flatMap RBlk.cells ++ b'.cells = (l' ++ [b']).flatMap RBlk.cells := by simp
    rw [e1, e2]
    refine ⟨l.length - (k + 1), by omega, k + 1, l' ++ [b'], A2, c2, X ++ blkRes b', rfl, by omega, ?_, ?_, ⟨rfl, rfl, rfl, trivial⟩, rfl⟩
    · rw [take_snoc_ hb, List.map_append, List.map_append, hbare]; simp [hb']
    · rw [List.flatMap_append]
      refine List.Perm.append hX ?_
      simp
  have hke : k = l.length := by
    simp only [decide_eq_false_iff_not] at h; omega
  refine Cd.exit (id := 0) ?_
  refine Cd.seq ?_
  refine Cd.region ?_
  refine Ol.p mvs ?_
  refine Ol.p ass ?_
  refine Ol.nil ?_
  exact Cd.ret ⟨_, ret1 rfl rfl, _, .all, l', A', c', X, by rw [hbare, hke, List.take_of_length_le (Nat.le_refl _)], rfl, hX, rfl⟩
end
section
theorem kit_CopyFunc_ct {w : World} {f : RFun} (hf : FunAt w w.heap.size f) (hp : f.params.length < 2 ^ 44) (hl : BlksIn w w.heap.size f.bA f.blocks) : Ct Try.prog 41 #[f.val] w (fun v R => ∃ g : RFun, g.bare = f.bare ∧ v = g.val ∧ R.Perm (funRes g)) := by
  refine Ct.mk Try.func41 rfl rfl ?_
  refine Cd.seq ?_
  refine Cd.region ?_
  refine Ol.x bxg ?_
  rintro _ _ ⟨g1, rfl, rfl⟩
  refine Ol.x (alc zr_api_Func) ?_
  rintro _ _ ⟨g2, rfl, rfl⟩
  refine Ol.nil ?_
  refine Cd.seq ?_
  refine Cd.region ?_
  refine Ol.p (fdl fd_api_Func_0) ?_
  refine Ol.p (ld (v := .slice f.pA f.params.length f.pC) one_L_int (Rd.blk (i := 1) rfl rfl)) ?_
  refine Ol.x (sp_call en_kit_CopyInts (fun M w' hh => kit_CopyInts_ct (l := f.params) (hf.params.now hh) hp)) ?_
  rintro _ _ ⟨_, rfl, A', c', rfl, rfl⟩
  refine Ol.p (fdl fd_api_Func_0) ?_
  refine Ol.s (sto (v := .slice A' f.params.length c') (i := 2) (k := 0 + 0) (.inr sz_L_int) rfl rfl rfl (by simp [RFun.cells]) rfl) ?_
  refine Ol.nil ?_
  refine Cd.seq ?_
  refine Cd.region ?_
  refine Ol.p (fdl fd_api_Func_1) ?_
  refine Ol.p (ld (v := .slice f.bA f.blocks.length f.bC) one_L_api_Block (Rd.blk (i := 2) rfl rfl)) ?_
  refine Ol.x (sp_call en_kit_CopyBlocks (fun M w' hh => kit_CopyBlocks_ct (l := f.blocks) (hl.now hh))) ?_
  rintro _ _ ⟨_, rfl, l', A2, c2, X, hb, rfl, hX, rfl⟩
  refine Ol.keep Keep.comm ?_
  obtain ⟨g, hg⟩ : ∃ g : RFun, g = ⟨A', c', f.params, A2, c2, l'⟩ := ⟨_, rfl⟩
  refine Ol.p (fdl fd_api_Func_1) ?_
  refine Ol.s (sto (v := .slice A2 l'.length c2) (i := 2) (k := 0 + 1) (.inr sz_L_api_Block) rfl rfl rfl (by simp [RFun.cells]) rfl) ?_
  refine Ol.nil ?_
  refine Cd.seq ?_
  refine Cd.region ?_
  refine Ol.p (ldw (cs := #[.slice A' f.params.length c', .slice A2 l'.length c2]) ag_api_Func (i := 2) rfl rfl) ?_
  refine Ol.s (stw (vs := #[.slice A' f.params.length c', .slice A2 l'.length c2]) sz_api_Func rfl (by intro u hu; simp at hu; rcases hu with rfl | rfl <;> rfl) (i := 1) rfl rfl) ?_
  refine Ol.nil ?_
  refine Cd.ret ⟨_, retc rfl ag_api_Func rfl (i := 1) rfl rfl, _, .sub (.cons_cons _ (.cons _ (.cons _ (List.Sublist.refl _)))), g, ?_, by rw [hg]; rfl, ?_⟩
  · rw [hg]
    unfold RFun.bare
    simp only [hb]
  · rw [hg]
    exact (hX.cons _).cons _
end
end Go.Proofs.Ytcojedoejpcolaa

/- The package ir: the most operands, arguments; a variable renamed, walked. -/
namespace Go.Proofs.Ytcojedoejpcolaa
set_option linter.unusedVariables false
open Go Go.RowKit
set_option maxRecDepth 100000

def insMost (p : Nat × Nat) (i : RIns) : Nat × Nat := if i.op = 13 then (p.1, max p.2 i.args.length) else (max p.1 (readsL i).length, p.2)
def blkMost (p : Nat × Nat) (b : RBlk) : Nat × Nat := b.ins.foldl insMost (max p.1 (needsL b.term).length, p.2)
def mostF (f : RFun) : Nat × Nat := if okF f then f.blocks.foldl blkMost (0, f.params.length) else (0, 0)
theorem mostF_bare (f : RFun) : mostF f.bare = mostF f := by
  unfold mostF okF
  rw [longF_bare, wholeF_bare]
  congr 1
  show (f.blocks.map RBlk.bare).foldl blkMost (0, f.params.length) = _
  rw [List.foldl_map]
  congr 1
  funext p b
  show (b.ins.map RIns.bare).foldl insMost _ = _
  rw [List.foldl_map]
  rfl
theorem mostF_ren {r : Int → Int} {rN : Nat → Nat} (h : Rnm r rN) (f : RFun) : mostF (renF r f) = mostF f := by
  unfold mostF
  rw [okF_ren h]
  congr 1
  show (f.blocks.map (renB r)).foldl blkMost (0, (f.params.map r).length) = _
  rw [List.foldl_map, List.length_map]
  congr 1
  funext p b
  show (b.ins.map (renI r)).foldl insMost (max p.1 (needsL (renT r b.term)).length, p.2) = _
  rw [List.foldl_map, needsL_ren h, List.length_map]
  unfold blkMost
  congr 1
  funext p i
  unfold insMost
  rw [readsL_ren h, List.length_map]
  show (if i.op = 13 then (p.1, max p.2 (i.args.map r).length) else _) = _
  rw [List.length_map]
theorem sizeF_bare (f : RFun) : sizeF f.bare = sizeF f := by
  unfold sizeF okF
  rw [longF_bare, wholeF_bare]
  congr 2
  show (f.blocks.map RBlk.bare).map _ = _
  rw [List.map_map]
  apply List.map_congr_left
  intro b _
  simp [Function.comp, RBlk.bare]
theorem noteF_bare (f : RFun) : noteF f.bare = noteF f := by
  unfold noteF
  show f.params ++ (f.blocks.map RBlk.bare).flatMap noteB = _
  rw [List.flatMap_map]
  congr 2
  funext b
  show (b.ins.map RIns.bare).flatMap noteI ++ needsL b.term = _
  rw [List.flatMap_map]
  rfl
theorem varsF_bare (f : RFun) : varsF f.bare = varsF f := by
  unfold varsF okF
  rw [longF_bare, wholeF_bare, noteF_bare]
section
theorem maxI (a b : Nat) : (if (a : Int) < (b : Int) then (b : Int) else (a : Int)) = ((max a b : Nat) : Int) := by omega
def mostTo' (f : RFun) (k : Nat) : Nat × Nat := (f.blocks.take k).foldl blkMost (0, f.params.length)
set_option maxHeartbeats 4000000 in
theorem ir_Most_ct {w : World} {f : RFun} (hf : FunAt w w.heap.size f) (hfit : Fit f) : Ct Try.prog 33 #[f.val] w (Is (.tuple #[.int .i64 ((mostF f).1 : Nat), .int .i64 ((mostF f).2 : Nat)])) := by
  have hbl := hfit.blen
  refine Ct.mk Try.func33 rfl rfl ?_
  refine Cd.seq ?_
  refine Cd.region ?_
  refine Ol.x bxg ?_
  rintro _ _ ⟨g1, rfl, rfl⟩
  refine Ol.p asi ?_
  refine Ol.p asi ?_
  refine Ol.nil ?_
  refine Cd.seq ?_
  cases hok : okF f with
  | false =>
    have hv : mostF f = (0, 0) := by unfold mostF; rw [hok]; rfl
    rw [hv]
    refine Cd.mid (fun σ' L' => Has σ' [(14, .bool true)] ∧ [blk g1 (.cells f.cells.toArray 43)] = L') ?_ ?_
    · cases hl : longF f with
      | true =>
        refine Cd.region ?_
        refine Ol.p (ldw ag_api_Func (i := 0) rfl rfl) ?_
        refine Ol.s (cl en_ir_long (fun M w' hh => ir_long_ct (hf.now hh) hfit)) ?_
        refine Ol.p mvb ?_
        refine Ol.gn hl ?_
        refine Ol.gn hl ?_
        refine Ol.gn hl ?_
        refine Ol.p (pkTb hl) ?_
        refine Ol.nil ?_
        exact ⟨⟨rfl, trivial⟩, rfl⟩
      | false =>
        have hw : wholeF f = false := by unfold okF at hok; rw [hl] at hok; simpa using hok
        refine Cd.region ?_
        refine Ol.p (ldw ag_api_Func (i := 0) rfl rfl) ?_
        refine Ol.s (cl en_ir_long (fun M w' hh => ir_long_ct (hf.now hh) hfit)) ?_
        refine Ol.p mvb ?_
        refine Ol.gp hl (ldw ag_api_Func (i := 0) rfl rfl) ?_
        refine Ol.gs hl (cl en_ir_whole (fun M w' hh => ir_whole_ct (hf.now hh) hfit)) ?_
        refine Ol.gp hl noti ?_
        refine Ol.p (pkFb hl) ?_
        refine Ol.nil ?_
        exact ⟨⟨by show Value.bool _ = _; rw [hw]; rfl, trivial⟩, rfl⟩
    rintro σ' _ ⟨hs', rfl⟩
    refine Cd.has hs' ?_
    refine Cd.cond rfl (fun h => ?_) (fun h => by cases h)
    refine Cd.seq ?_
    refine Cd.region ?_
    refine Ol.p asi ?_
    refine Ol.p asi ?_
    refine Ol.nil ?_
    exact Cd.ret ⟨.tuple _, ret2 rfl rfl rfl, [], .nil, rfl, rfl⟩
  | true =>
  obtain ⟨hl, hw⟩ := ok_parts hok
  obtain ⟨h0, h200, h8, h64⟩ := long_parts hl
  have hwb : (!wholeF f) = false := by rw [hw]; rfl
  have hv : mostF f = f.blocks.foldl blkMost (0, f.params.length) := by unfold mostF; rw [hok]; rfl
  refine Cd.seq ?_
  refine Cd.region ?_
  refine Ol.p (ldw ag_api_Func (i := 0) rfl rfl) ?_
  refine Ol.s (cl en_ir_long (fun M w' hh => ir_long_ct (hf.now hh) hfit)) ?_
  refine Ol.p mvb ?_
  refine Ol.gp hl (ldw ag_api_Func (i := 0) rfl rfl) ?_
  refine Ol.gs hl (cl en_ir_whole (fun M w' hh => ir_whole_ct (hf.now hh) hfit)) ?_
  refine Ol.gp hl noti ?_
  refine Ol.p (pkFb hl) ?_
  refine Ol.nil ?_
  refine Cd.cond rfl (fun h => by rw [hwb] at h; cases h) (fun h => ?_)
  refine Cd.skip ?_
  refine Cd.seq ?_
  refine Cd.region ?_
  refine Ol.p (fdl fd_api_Func_0) ?_
  refine Ol.p (ld one_L_int (Rd.blk (i := 0) rfl rfl)) ?_
  refine Ol.p (lens sl_L_int) ?_
  refine Ol.p asi ?_
  refine Ol.nil ?_
  refine Cd.seq ?_
  refine Cd.seq ?_
  refine Cd.region ?_
  refine Ol.p (fdl fd_api_Func_1) ?_
  refine Ol.p (ld one_L_api_Block (Rd.blk (i := 0) rfl rfl)) ?_
  refine Ol.p (lens sl_L_api_Block) ?_
  refine Ol.p mvi ?_
  refine Ol.nil ?_
  refine Cd.block ?_
  refine Cd.loop (fun m σ L => ∃ k, m = f.blocks.length - k ∧ k ≤ f.blocks.length ∧ Has σ [(2, .int .i64 ((mostTo' f k).1 : Nat)), (3, .int .i64 ((mostTo' f k).2 : Nat)), (19, .slice f.bA f.blocks.length f.bC), (20, .int .i64 f.blocks.length), (21, .int .i64 k)] ∧ [blk g1 (.cells f.cells.toArray 43)] = L) (n := f.blocks.length) ⟨0, rfl, Nat.zero_le _, ⟨rfl, rfl, rfl, rfl, rfl, trivial⟩, rfl⟩ ?_
  rintro _ σ L ⟨k, rfl, hk, hs, rfl⟩
  refine Cd.has hs ?_
  clear hs
  refine Cd.seq ?_
  refine Cd.region ?_
  refine Ol.p lsi ?_
  refine Ol.nil ?_
  refine Cd.seq ?_
  refine Cd.cond rfl (fun h => ?_) (fun h => ?_)
  · have hlt : k < f.blocks.length := by
      simp only [decide_eq_true_eq] at h; omega
    obtain ⟨x, hx⟩ : ∃ x, f.blocks[k]? = some x := ⟨_, List.getElem?_eq_getElem hlt⟩
    have hxm := List.mem_of_getElem? hx
    have hxl := h64 x hxm
    obtain ⟨p, hp⟩ : ∃ p, p = mostTo' f k := ⟨_, rfl⟩
    have hp2 : mostTo' f (k + 1) = blkMost p x := by rw [hp]; unfold mostTo'; rw [take_snoc_ hx, List.foldl_append]; rfl
    rw [← hp]
    refine Cd.skip ?_
    refine Cd.seq ?_
    refine Cd.block ?_
    refine Cd.seq ?_
    refine Cd.region ?_
    refine Ol.p (ixn (ix := k) sl_L_api_Block (Som.slc hf.blocks (by omega))) ?_
    refine Ol.p (lds (es := x.cells) ag_api_Block hf.blocks x.len (fun j u hu => blk_cell hx hu)) ?_
    refine Ol.x (alc zr_api_Block) ?_
    rintro _ _ ⟨g5, rfl, rfl⟩
    refine Ol.s (stw (vs := x.cells.toArray) sz_api_Block rfl x.one (i := 0) rfl rfl) ?_
    refine Ol.nil ?_
    refine Cd.seq ?_
    refine Cd.region ?_
    refine Ol.p mvi ?_
    refine Ol.p (fdl fd_api_Block_1) ?_
    refine Ol.p (ldp (k := 0 + 1) (vs := x.term.cells.toArray) ag_api_Term (i := 0) rfl rfl (fun j u hu => by rw [Nat.zero_add, Nat.add_comm]; simpa [RBlk.cells] using hu)) ?_
    refine Ol.x (sp_call en_ir_Needs (fun M w' hh => ir_Needs_ct (t := x.term))) ?_
    rintro _ _ ⟨_, rfl, A28, c28, rfl, rfl⟩
    refine Ol.p (lens sl_L_int) ?_
    refine Ol.p maxi ?_
    refine Ol.p asi ?_
    refine Ol.keep (.sub (.cons _ (List.Sublist.refl _))) ?_
    refine Ol.nil ?_
    rw [maxI]
    obtain ⟨p0, hp0⟩ : ∃ p0 : Nat × Nat, p0 = (max p.1 (needsL x.term).length, p.2) := ⟨_, rfl⟩
    refine Cd.seq ?_
    refine Cd.region ?_
    refine Ol.p (fdl fd_api_Block_0) ?_
    refine Ol.p (ld one_L_api_Ins (Rd.blk (i := 0) rfl rfl)) ?_
    refine Ol.p (lens sl_L_api_Ins) ?_
    refine Ol.p mvi ?_
    refine Ol.nil ?_
    refine Cd.block ?_
    refine Cd.loop (fun m σ L => ∃ j, m = x.ins.length - j ∧ j ≤ x.ins.length ∧ Has σ [(2, .int .i64 (((x.ins.take j).foldl insMost p0).1 : Nat)), (3, .int .i64 (((x.ins.take j).foldl insMost p0).2 : Nat)), (5, .pointer (some ⟨g5, 0, none⟩)), (19, .slice f.bA f.blocks.length f.bC), (20, .int .i64 f.blocks.length), (21, .int .i64 k), (32, .slice x.iA x.ins.length x.iC), (33, .int .i64 x.ins.length), (34, .int .i64 j)] ∧ [blk g5 (.cells x.cells.toArray 50), blk g1 (.cells f.cells.toArray 43)] = L) (n := x.ins.length) ⟨0, rfl, Nat.zero_le _, ⟨by rw [hp0]; rfl, by rw [hp0]; rfl, rfl, rfl, rfl, rfl, rfl, rfl, rfl, trivial⟩, rfl⟩ ?_
    rintro _ σ L ⟨j, rfl, hj, hs, rfl⟩
    refine Cd.has hs ?_
    clear hs
    refine Cd.seq ?_
    refine Cd.region ?_
    refine Ol.p lsi ?_
    refine Ol.nil ?_
    refine Cd.seq ?_
    refine Cd.cond rfl (fun h2 => ?_) (fun h2 => ?_)
    · have hjl : j < x.ins.length := by
        simp only [decide_eq_true_eq] at h2; omega
      obtain ⟨i, hi⟩ : ∃ i, x.ins[j]? = some i := ⟨_, List.getElem?_eq_getElem hjl⟩
      have him := List.mem_of_getElem? hi
      have hrl := readsL_len i
      have hal := hfit.alen x hxm i him
      have hia : ∀ {M : List Res} {w' : World}, Hp w w.heap.size M w' → InsAt w' i := fun hh => ⟨(hf.args x hxm i him).now hh, hal, hfit.insr x hxm i him i.callee (by simp)⟩
      obtain ⟨q, hq⟩ : ∃ q, q = (x.ins.take j).foldl insMost p0 := ⟨_, rfl⟩
      have hq2 : (x.ins.take (j + 1)).foldl insMost p0 = insMost q i := by rw [hq, take_snoc_ hi, List.foldl_append]; rfl
      rw [← hq]
      refine Cd.skip ?_
      refine Cd.seq ?_
      refine Cd.block ?_
      refine Cd.seq ?_
      refine Cd.region ?_
      refine Ol.p (ixn (ix := j) sl_L_api_Ins (Som.slc (hf.ins x hxm) (by omega))) ?_
      refine Ol.p (lds (es := i.cells) ag_api_Ins (hf.ins x hxm) i.len (fun j u hu => ins_cell hi hu)) ?_
      refine Ol.x (alc zr_api_Ins) ?_
      rintro _ _ ⟨g7, rfl, rfl⟩
      refine Ol.s (stw (vs := i.cells.toArray) sz_api_Ins rfl i.one (i := 0) rfl rfl) ?_
      refine Ol.nil ?_
      refine Cd.seq ?_
      refine Cd.region ?_
      refine Ol.p (fdl fd_api_Ins_0) ?_
      refine Ol.p (ld (v := .int .i64 i.op) one_api_Op (Rd.blk (i := 0) rfl rfl)) ?_
      refine Ol.nil ?_
      refine Cd.block ?_
      refine Cd.seq ?_
      refine Cd.region ?_
      refine Ol.p eqi ?_
      refine Ol.p asb ?_
      refine Ol.nil ?_
      refine Cd.cond rfl (fun h3 => ?_) (fun h3 => ?_)
      · have hop : i.op = 13 := by simpa using h3
        refine Cd.region ?_
        refine Ol.p mvi ?_
        refine Ol.p (fdl fd_api_Ins_6) ?_
        refine Ol.p (ld (v := .slice i.aA i.args.length i.aC) one_L_int (Rd.blk (i := 0) rfl rfl)) ?_
        refine Ol.p (lens sl_L_int) ?_
        refine Ol.p maxi ?_
        refine Ol.p asi ?_
        refine Ol.keep (.sub (.cons _ (List.Sublist.refl _))) ?_
        refine Ol.nil ?_
        rw [maxI]
        refine Cd.region ?_
        refine Ol.p addi ?_
        refine Ol.p mvi ?_
        refine Ol.nil ?_
        refine ⟨x.ins.length - (j + 1), by omega, j + 1, rfl, by omega, ⟨?_, ?_, rfl, rfl, rfl, rfl, rfl, rfl, rfl, trivial⟩, rfl⟩
        · rw [hq2]; unfold insMost; rw [if_pos hop]; rfl
        · rw [hq2]; unfold insMost; rw [if_pos hop]; rfl
      have hop : ¬ i.op = 13 := by simpa using h3
      refine Cd.region ?_
      refine Ol.p mvi ?_
      refine Ol.p (ldw (cs := i.cells.toArray) ag_api_Ins (i := 0) rfl rfl) ?_
      refine Ol.x (sp_call en_ir_Reads (fun M w' hh => ir_Reads_ct (hia hh))) ?_
      rintro _ _ ⟨_, rfl, A42, c42, rfl, rfl⟩
      refine Ol.p (lens sl_L_int) ?_
      refine Ol.p maxi ?_
      refine Ol.p asi ?_
      refine Ol.keep (.sub (.cons _ (.cons _ (List.Sublist.refl _)))) ?_
      refine Ol.nil ?_
      rw [maxI]
      refine Cd.region ?_
      refine Ol.p addi ?_
      refine Ol.p mvi ?_
      refine Ol.nil ?_
      refine ⟨x.ins.length - (j + 1), by omega, j + 1, rfl, by omega, ⟨?_, ?_, rfl, rfl, rfl, rfl, rfl, rfl, rfl, trivial⟩, rfl⟩
      · rw [hq2]; unfold insMost; rw [if_neg hop]; rfl
      · rw [hq2]; unfold insMost; rw [if_neg hop]; rfl
    have hje : j = x.ins.length := by
      simp only [decide_eq_false_iff_not] at h2; omega
    subst hje
    rw [List.take_of_length_le (Nat.le_refl _)]
    refine Cd.exit (id := 2) ?_
    refine Cd.region ?_
    refine Ol.p addi ?_
    refine Ol.p mvi ?_
    refine Ol.keep (.sub (.cons _ (List.Sublist.refl _))) ?_
    refine Ol.nil ?_
    refine ⟨f.blocks.length - (k + 1), by omega, k + 1, rfl, by omega, ⟨?_, ?_, rfl, rfl, rfl, trivial⟩, rfl⟩
    · rw [hp2, hp0]; rfl
    · rw [hp2, hp0]; rfl
  have hke : k = f.blocks.length := by
    simp only [decide_eq_false_iff_not] at h; omega
  have hm : mostTo' f k = mostF f := by
    rw [hv, hke]
    unfold mostTo'
    rw [List.take_of_length_le (Nat.le_refl _)]
  rw [hm]
  refine Cd.exit (id := 0) ?_
  refine Cd.seq ?_
  refine Cd.region ?_
  refine Ol.p mvi ?_
  refine Ol.p mvi ?_
  refine Ol.p asi ?_
  refine Ol.p asi ?_
  refine Ol.nil ?_
  exact Cd.ret ⟨.tuple _, ret2 rfl rfl rfl, [], .nil, rfl, rfl⟩
end
section
theorem law03_renamed_ct {w : World} {v : Int} {k : Nat} (hk : k < 200) (hv : -9223372036854775808 ≤ v ∧ v ≤ 9223372036854775807) : Ct Try.prog 42 #[.int .i64 v, .int .i64 (k : Int)] w (Is (.int .i64 (shiftI k v))) := by
  refine Ct.mk Try.func42 rfl rfl ?_
  refine Cd.seq ?_
  refine Cd.region ?_
  refine Ol.p asi ?_
  refine Ol.nil ?_
  refine Cd.seq ?_
  refine Cd.mid (fun σ' L' => Has σ' [(0, .int .i64 v), (1, .int .i64 (k : Int)), (10, .bool (decide (v < 1 ∨ 200 < v)))] ∧ [] = L') ?_ ?_
  · cases h2 : decide (v < 1) with
    | true =>
      have hv1 : v < 1 := by simpa using h2
      refine Cd.region ?_
      refine Ol.p mvi ?_
      refine Ol.p lsi ?_
      refine Ol.p mvb ?_
      refine Ol.gn h2 ?_
      refine Ol.gn h2 ?_
      refine Ol.p (pkTb h2) ?_
      refine Ol.nil ?_
      exact ⟨⟨rfl, rfl, by show Value.bool _ = _; simp [hv1], trivial⟩, rfl⟩
    | false =>
      have hv1 : ¬ v < 1 := by simpa using h2
      refine Cd.region ?_
      refine Ol.p mvi ?_
      refine Ol.p lsi ?_
      refine Ol.p mvb ?_
      refine Ol.gp h2 mvi ?_
      refine Ol.gp h2 gti ?_
      refine Ol.p (pkFb h2) ?_
      refine Ol.nil ?_
      exact ⟨⟨rfl, rfl, by show Value.bool _ = _; simp [hv1], trivial⟩, rfl⟩
  rintro σ' _ ⟨hs', rfl⟩
  refine Cd.has hs' ?_
  refine Cd.cond rfl (fun h => ?_) (fun h => ?_)
  · have h1 : v < 1 ∨ 200 < v := by simpa using h
    refine Cd.seq ?_
    refine Cd.region ?_
    refine Ol.p mvi ?_
    refine Ol.p asi ?_
    refine Ol.nil ?_
    exact Cd.ret ⟨.int .i64 _, ret1 rfl rfl, [], .nil, by unfold shiftI; rw [if_pos h1], rfl⟩
  have h1 : ¬ (v < 1 ∨ 200 < v) := by simpa using h
  have e1 : (v - 1 + (k : Int)).tmod 200 = (v - 1 + (k : Int)) % 200 := Int.tmod_eq_emod_of_nonneg (by omega)
  refine Cd.skip ?_
  refine Cd.seq ?_
  refine Cd.region ?_
  refine Ol.p mvi ?_
  refine Ol.p subi ?_
  refine Ol.p mvi ?_
  refine Ol.p addi ?_
  refine Ol.p remi ?_
  rw [e1]
  refine Ol.p addi ?_
  refine Ol.p asi ?_
  refine Ol.nil ?_
  exact Cd.ret ⟨.int .i64 _, ret1 rfl rfl, [], .nil, by unfold shiftI; rw [if_neg h1], rfl⟩
end
end Go.Proofs.Ytcojedoejpcolaa

/- The document's answer of layer 03: whether a function is right; its variables; its size, walked. -/
namespace Go.Proofs.Ytcojedoejpcolaa
set_option linter.unusedVariables false
set_option linter.unusedSimpArgs false
open Go Go.RowKit
set_option maxRecDepth 100000

theorem readsL_ten (i : RIns) : (readsL i).length ≤ 10 := by
  unfold readsL
  cases h : isIns i with
  | false => simp
  | true =>
    rw [cond_true, List.length_append]
    have h1 := (isIns_parts h).2.2.2.2
    have h2 := List.length_filter_le (fun n => !decide (n = 0)) [i.a, i.b]
    simp only [List.length_cons, List.length_nil] at h2
    omega
theorem all_order2 {ts : List Tm} (hc : closed ts = true) : ts.length ≤ (orderF ts).length ↔ ∀ b, b < ts.length → Rc ts 0 b := by
  constructor
  · intro h b hb
    rw [← order_mem hc]
    by_cases hm : b ∈ orderF ts
    · exact hm
    · have := nodup_le (b :: orderF ts) (List.range ts.length) (List.nodup_cons.2 ⟨hm, order_nodup hc⟩) (fun x hx => by
        rcases List.mem_cons.1 hx with rfl | hx
        · simpa using hb
        · rw [order_mem hc] at hx
          cases hx with
          | refl => simp; omega
          | step _ h => have := toAt_lt hc h; simp; omega)
      simp at this
      omega
  · intro h
    have := nodup_le (List.range ts.length) (orderF ts) List.nodup_range (fun x hx => (order_mem hc x).2 (h x (by simpa using hx)))
    simpa using this
section
set_option maxHeartbeats 4000000 in
theorem ref03_Right_ct {w : World} {f : RFun} (hf : FunAt w w.heap.size f) (hfit : Fit f) : Ct Try.prog 35 #[f.val] w (Is (.int .i64 (rightF f))) := by
  have htl : f.terms.length = f.blocks.length := by simp [RFun.terms]
  refine Ct.mk Try.func35 rfl rfl ?_
  refine Cd.seq ?_
  refine Cd.region ?_
  refine Ol.x bxg ?_
  rintro _ _ ⟨g1, rfl, rfl⟩
  refine Ol.p asi ?_
  refine Ol.nil ?_
  refine Cd.seq ?_
  refine Cd.seq ?_
  refine Cd.region ?_
  refine Ol.p (ldw (cs := f.cells.toArray) ag_api_Func (i := 0) rfl rfl) ?_
  refine Ol.s (cl (v := .bool (longF f)) en_ref03_long (fun M w' hh => ref03_long_ct (hf.now hh) hfit)) ?_
  refine Ol.nil ?_
  refine Cd.cond rfl (fun hl => ?_) (fun hl => ?_)   -- $8
  · refine Cd.seq ?_
    refine Cd.region ?_
    refine Ol.p asi ?_
    refine Ol.nil ?_
    exact Cd.ret ⟨.int .i64 3, ret1 rfl rfl, [], Keep.nil, by unfold rightF; rw [hl]; rfl, rfl⟩
  obtain ⟨h0, h200, hp8, hi64⟩ := long_parts hl
  refine Cd.skip ?_
  refine Cd.seq ?_
  refine Cd.seq ?_
  refine Cd.region ?_
  refine Ol.p (ldw (cs := f.cells.toArray) ag_api_Func (i := 0) rfl rfl) ?_
  refine Ol.s (cl (v := .bool (wholeF f)) en_ref03_shaped (fun M w' hh => ref03_shaped_ct (hf.now hh) hfit)) ?_
  refine Ol.p noti ?_
  refine Ol.nil ?_
  refine Cd.cond rfl (fun hw => ?_) (fun hw => ?_)   -- $11
  · have hw : (!wholeF f) = true := hw
    refine Cd.seq ?_
    refine Cd.region ?_
    refine Ol.p asi ?_
    refine Ol.nil ?_
    exact Cd.ret ⟨.int .i64 2, ret1 rfl rfl, [], Keep.nil, by unfold rightF; rw [hl, hw]; rfl, rfl⟩
  have hw : (!wholeF f) = false := hw
  have hwt : wholeF f = true := by simpa using hw
  have hpar := whole_params hwt
  have e1 : rightF f = bif !okEs f.terms || decide ((orderF f.terms).length < f.blocks.length) then 9 else bif !valuedF f then 8 else 0 := by unfold rightF; rw [hl, hw]; rfl
  refine Cd.skip ?_
  refine Cd.seq ?_
  refine Cd.region ?_
  refine Ol.p (ldw (cs := f.cells.toArray) ag_api_Func (i := 0) rfl rfl) ?_
  refine Ol.x (sp_call (vs := [f.val]) (R := ReachR f) en_ref03_reached (fun M w' hh => ref03_reached_ct (hf.now hh) hfit h0 h200)) ?_
  rintro _ _ ⟨R, rfl, hR⟩
  rcases hR with ⟨hno, rfl, rfl⟩ | ⟨hok, A, c, rfl, rfl⟩
  · skip
    refine Ol.p mvt ?_
    refine Ol.p extv ?_
    refine Ol.p extv ?_
    refine Ol.p ass ?_
    refine Ol.p asb ?_
    refine Ol.nil ?_
    refine Cd.mid (fun σ' L' => Has σ' [(4, .bool false)] ∧ [blk g1 (.cells f.cells.toArray 43)] = L') ?_ ?_
    · refine Cd.seq ?_
      refine Cd.region ?_
      refine Ol.p asi ?_
      refine Ol.nil ?_
      refine Cd.block ?_   -- 0
      refine Cd.loop (fun m σ L => Has σ [(3, .slice none 0 0), (4, .bool false), (5, .int .i64 0)] ∧ [blk g1 (.cells f.cells.toArray 43)] = L) (n := 0) ⟨⟨rfl, rfl, rfl, trivial⟩, rfl⟩ ?_
      rintro _ σ L ⟨hs, rfl⟩
      refine Cd.has hs ?_
      clear hs
      refine Cd.seq ?_
      refine Cd.seq ?_
      refine Cd.region ?_
      refine Ol.p mvi ?_
      refine Ol.p mvs ?_
      refine Ol.p (lens sl_L_bool) ?_
      refine Ol.p lsi ?_
      refine Ol.nil ?_
      refine Cd.cond rfl (fun h => by cases h) (fun _ => ?_)
      refine Cd.exit (id := 0) ?_
      exact ⟨⟨rfl, trivial⟩, rfl⟩
    rintro σ' _ ⟨hs', rfl⟩
    refine Cd.has hs' ?_
    clear hs'
    refine Cd.seq ?_
    refine Cd.seq ?_
    refine Cd.region ?_
    refine Ol.p mvb ?_
    refine Ol.p noti ?_
    refine Ol.nil ?_
    refine Cd.cond rfl (fun _ => ?_) (fun h => by cases h)
    refine Cd.seq ?_
    refine Cd.region ?_
    refine Ol.p asi ?_
    refine Ol.nil ?_
    exact Cd.ret ⟨.int .i64 9, ret1 rfl rfl, [], Keep.nil, by rw [e1, hno]; rfl, rfl⟩
  have hcl := okEs_closed hok (by omega) (by omega)
  obtain ⟨S, hS⟩ : ∃ S, S = iterF (passA (fun _ => true) f.terms) f.blocks.length oneB := ⟨_, rfl⟩
  rw [← hS]
  have hall : ((List.range f.blocks.length).all S) = !decide ((orderF f.terms).length < f.blocks.length) := by
    rw [Bool.eq_iff_iff, List.all_eq_true, Bool.not_eq_true', decide_eq_false_iff_not, Nat.not_lt]
    rw [← htl, all_order2 hcl]
    constructor
    · intro h b hb
      have := h b (by simpa using hb)
      rw [hS, ← htl] at this
      exact (reached_rounds hcl hb).1 this
    · intro h b hb
      have hb : b < f.terms.length := by simpa using hb
      rw [hS, ← htl]
      exact (reached_rounds hcl hb).2 (h b hb)
  refine Ol.keep Keep.comm ?_
  refine Ol.p mvt ?_
  refine Ol.p extv ?_
  refine Ol.p extv ?_
  refine Ol.p ass ?_
  refine Ol.p asb ?_
  refine Ol.nil ?_
  refine Cd.mid (fun σ' L' => Has σ' [(1, .pointer (some ⟨g1, 0, none⟩)), (4, .bool ((List.range f.blocks.length).all S))] ∧ [blk g1 (.cells f.cells.toArray 43)] = L') ?_ ?_
  · refine Cd.seq ?_
    refine Cd.region ?_
    refine Ol.p asi ?_
    refine Ol.nil ?_
    refine Cd.block ?_   -- 0
    refine Cd.loop (fun m σ L => ∃ k, m = f.blocks.length - k ∧ k ≤ f.blocks.length ∧ Has σ [(1, .pointer (some ⟨g1, 0, none⟩)), (3, .slice A f.blocks.length c), (4, .bool ((List.range k).all S)), (5, .int .i64 k)] ∧ [blk g1 (.cells f.cells.toArray 43), row (.slice A f.blocks.length c) 4 1 f.blocks.length (boolsL f.blocks.length S)] = L) (n := f.blocks.length) ⟨0, rfl, Nat.zero_le _, ⟨rfl, rfl, rfl, rfl, trivial⟩, rfl⟩ ?_
    rintro _ σ L ⟨k, rfl, hk, hs, rfl⟩
    refine Cd.has hs ?_
    clear hs
    refine Cd.seq ?_
    refine Cd.seq ?_
    refine Cd.region ?_
    refine Ol.p mvi ?_
    refine Ol.p mvs ?_
    refine Ol.p (lens sl_L_bool) ?_
    refine Ol.p lsi ?_
    refine Ol.nil ?_
    refine Cd.cond rfl (fun h => ?_) (fun h => ?_)   -- $20
    · have hlt := lt_of h
      have hr : (List.range (k + 1)).all S = ((List.range k).all S && S k) := by
        rw [List.range_succ, List.all_append]
        simp
      refine Cd.skip ?_
      refine Cd.seq ?_
      refine Cd.block ?_   -- 1
      cases q1 : (List.range k).all S with
      | true =>
        refine Cd.region ?_
        refine Ol.p mvb ?_
        refine Ol.p mvb ?_
        refine Ol.gp rfl mvs ?_
        refine Ol.gp rfl mvi ?_
        refine Ol.gp rfl (ixn (ix := k) sl_L_bool (Som.row (i := 1) rfl (by omega))) ?_
        refine Ol.gp rfl (ld (v := .bool (S k)) one_bool (Rd.row (i := 1) rfl (boolsL_at hlt))) ?_
        refine Ol.p (pkTb rfl) ?_
        refine Ol.p asb ?_
        refine Ol.nil ?_
        refine Cd.region ?_
        refine Ol.p mvi ?_
        refine Ol.p addi ?_
        refine Ol.p asi ?_
        refine Ol.nil ?_
        exact ⟨f.blocks.length - (k + 1), by omega, k + 1, rfl, by omega, ⟨rfl, rfl, congrArg Value.bool (by rw [hr, q1, Bool.true_and]), rfl, trivial⟩, rfl⟩
      | false =>
        refine Cd.region ?_
        refine Ol.p mvb ?_
        refine Ol.p mvb ?_
        refine Ol.gn rfl ?_
        refine Ol.gn rfl ?_
        refine Ol.gn rfl ?_
        refine Ol.gn rfl ?_
        refine Ol.p (pkFb rfl) ?_
        refine Ol.p asb ?_
        refine Ol.nil ?_
        refine Cd.region ?_
        refine Ol.p mvi ?_
        refine Ol.p addi ?_
        refine Ol.p asi ?_
        refine Ol.nil ?_
        exact ⟨f.blocks.length - (k + 1), by omega, k + 1, rfl, by omega, ⟨rfl, rfl, congrArg Value.bool (by rw [hr, q1, Bool.false_and]), rfl, trivial⟩, rfl⟩
    have hge := ge_of h
    have hke : k = f.blocks.length := by omega
    rw [hke]
    refine Cd.keep (.sub (.cons_cons _ (.cons _ .slnil))) ?_
    refine Cd.exit (id := 0) ?_
    exact ⟨⟨rfl, rfl, trivial⟩, rfl⟩
  rintro σ' _ ⟨hs', rfl⟩
  refine Cd.has hs' ?_
  clear hs'
  rw [hok] at e1
  refine Cd.seq ?_
  refine Cd.seq ?_
  refine Cd.region ?_
  refine Ol.p mvb ?_
  refine Ol.p noti ?_
  refine Ol.nil ?_
  refine Cd.cond rfl (fun h => ?_) (fun h => ?_)   -- $31
  · have h : (!(List.range f.blocks.length).all S) = true := h
    rw [hall, Bool.not_not] at h
    refine Cd.seq ?_
    refine Cd.region ?_
    refine Ol.p asi ?_
    refine Ol.nil ?_
    exact Cd.ret ⟨.int .i64 9, ret1 rfl rfl, [], Keep.nil, by rw [e1, h]; rfl, rfl⟩
  have h : (!(List.range f.blocks.length).all S) = false := h
  rw [hall, Bool.not_not] at h
  rw [h] at e1
  refine Cd.skip ?_
  refine Cd.seq ?_
  refine Cd.seq ?_
  refine Cd.region ?_
  refine Ol.p asi ?_
  refine Ol.nil ?_
  refine Cd.block ?_   -- 2
  refine Cd.loop (fun m σ L => ∃ k, m = 200 - k ∧ k ≤ 200 ∧ (∀ v : Int, 1 ≤ v → v ≤ k → lacksB f v = false) ∧ Has σ [(1, .pointer (some ⟨g1, 0, none⟩)), (6, .int .i64 ((k + 1 : Nat) : Int))] ∧ [blk g1 (.cells f.cells.toArray 43)] = L) (n := 200) ⟨0, rfl, Nat.zero_le _, (fun v h1 h2 => by omega), ⟨rfl, rfl, trivial⟩, rfl⟩ ?_
  rintro _ σ L ⟨k, rfl, hk, hno, hs, rfl⟩
  refine Cd.has hs ?_
  clear hs
  refine Cd.seq ?_
  refine Cd.seq ?_
  refine Cd.region ?_
  refine Ol.p mvi ?_
  refine Ol.p lei ?_
  refine Ol.nil ?_
  refine Cd.cond rfl (fun h2 => ?_) (fun h2 => ?_)   -- $33
  · have hlt : k < 200 := by
      have h2 : decide (((k + 1 : Nat) : Int) ≤ 200) = true := h2
      have := of_decide_eq_true h2
      omega
    refine Cd.skip ?_
    refine Cd.seq ?_
    refine Cd.block ?_   -- 3
    refine Cd.seq ?_
    refine Cd.region ?_
    refine Ol.p (ldw (cs := f.cells.toArray) ag_api_Func (i := 0) rfl rfl) ?_
    refine Ol.p mvi ?_
    refine Ol.s (cl (v := .bool (lacksB f ((k + 1 : Nat) : Int))) en_ref03_lacks (fun M w' hh => ref03_lacks_ct (hf.now hh) hfit hcl (fun p hp => (hpar p hp).1) (by omega) (fun _ _ i _ => readsL_ten i))) ?_
    refine Ol.nil ?_
    refine Cd.cond rfl (fun h3 => ?_) (fun h3 => ?_)   -- $38
    · have hv : valuedF f = false := by
        cases hv : valuedF f with
        | false => rfl
        | true =>
          have := valued_lacks.1 hv ((k + 1 : Nat) : Int) (by omega) (by omega)
          rw [this] at h3
          cases h3
      refine Cd.seq ?_
      refine Cd.region ?_
      refine Ol.p asi ?_
      refine Ol.nil ?_
      exact Cd.ret ⟨.int .i64 8, ret1 rfl rfl, [], Keep.nil, by rw [e1, hv]; rfl, rfl⟩
    refine Cd.skip ?_
    refine Cd.region ?_
    refine Ol.p mvi ?_
    refine Ol.p addi ?_
    refine Ol.p asi ?_
    refine Ol.nil ?_
    refine ⟨200 - (k + 1), by omega, k + 1, rfl, by omega, (fun v h4 h5 => ?_), ⟨rfl, rfl, trivial⟩, rfl⟩
    by_cases h6 : v ≤ k
    · exact hno v h4 h6
    · have : v = ((k + 1 : Nat) : Int) := by omega
      rw [this]; exact h3
  have hge : k = 200 := by
    have h2 : decide (((k + 1 : Nat) : Int) ≤ 200) = false := h2
    have := of_decide_eq_false h2
    omega
  have hv : valuedF f = true := valued_lacks.2 fun v h4 h5 => hno v h4 (by omega)
  refine Cd.exit (id := 2) ?_
  refine Cd.seq ?_
  refine Cd.region ?_
  refine Ol.p asi ?_
  refine Ol.nil ?_
  exact Cd.ret ⟨.int .i64 0, ret1 rfl rfl, [], Keep.nil, by rw [e1, hv]; rfl, rfl⟩
end
end Go.Proofs.Ytcojedoejpcolaa

