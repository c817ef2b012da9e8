/- IrTells: for every input that can be read, the law IrTells returns true and its arguments read as before. Conditions: the row. -/
/- Part 5 of the proof of IrTellsC: the texts RefH, Flow3, Order, Struct, Law10, Same, TermEq, SameF, Lent, IrTells, OpenL, OpenF, IrTellsC, one behind the other. -/
import Derived.Laws.StructEq
import Derived.Deep.Slices
import Derived.Test.YtcojedoejpcolaaIrTellsCM4
/- The document's answer of layer 03: a function's variables, its most, its size, walked. -/
namespace Go.Proofs.Ytcojedoejpcolaa
set_option linter.unusedVariables false
set_option linter.unusedSimpArgs false
open Go Go.RowKit
set_option maxRecDepth 100000

theorem insMost_max (k : Nat) : ∀ (l : List RIns) (a b : Nat), l.foldl insMost (max a k, b) = (max (l.foldl insMost (a, b)).1 k, (l.foldl insMost (a, b)).2)
  | [], a, b => rfl
  | i :: l, a, b => by
    rw [List.foldl_cons, List.foldl_cons]
    unfold insMost
    by_cases h : i.op = 13
    · rw [if_pos h, if_pos h]
      exact insMost_max k l a _
    · rw [if_neg h, if_neg h]
      simp only
      rw [show max (max a k) (readsL i).length = max (max a (readsL i).length) k by omega]
      exact insMost_max k l _ b
theorem max_val (a b : Nat) : (if (a : Int) < (b : Int) then (b : Int) else (a : Int)) = ((max a b : Nat) : Int) := by
  by_cases h : a < b
  · rw [if_pos (by omega)]; omega
  · rw [if_neg (by omega)]; omega
section
theorem ref03_Size_ct {w : World} {f : RFun} (hf : FunAt w w.heap.size f) (hfit : Fit f) : Ct Try.prog 39 #[f.val] w (Is (.int .i64 (sizeF f : Nat))) := by
  refine Ct.mk Try.func39 rfl rfl ?_
  refine Cd.seq ?_
  refine Cd.region ?_
  refine Ol.x bxg ?_
  rintro _ _ ⟨g1, rfl, rfl⟩
  refine Ol.p asi ?_
  refine Ol.nil ?_
  have ho : okF f = !(longF f || !wholeF f) := by unfold okF; cases longF f <;> cases wholeF f <;> rfl
  refine Cd.seq ?_
  refine Cd.mid (fun σ' L' => Has σ' [(1, .pointer (some ⟨g1, 0, none⟩)), (11, .bool (longF f || !wholeF f))] ∧ [blk g1 (.cells f.cells.toArray 43)] = L') ?_ ?_
  · cases q0 : longF f with
    | true =>
      refine Cd.region ?_
      refine Ol.p (ldw (cs := f.cells.toArray) ag_api_Func (i := 0) rfl rfl) ?_
      refine Ol.s (cl (v := .bool (longF f)) en_ref03_long (fun M w' hh => ref03_long_ct (hf.now hh) hfit)) ?_
      refine Ol.p mvb ?_
      refine Ol.gn q0 ?_
      refine Ol.gn q0 ?_
      refine Ol.gn q0 ?_
      refine Ol.p (pkTb q0) ?_
      refine Ol.nil ?_
      exact ⟨⟨rfl, rfl, trivial⟩, rfl⟩
    | false =>
      refine Cd.region ?_
      refine Ol.p (ldw (cs := f.cells.toArray) ag_api_Func (i := 0) rfl rfl) ?_
      refine Ol.s (cl (v := .bool (longF f)) en_ref03_long (fun M w' hh => ref03_long_ct (hf.now hh) hfit)) ?_
      refine Ol.p mvb ?_
      refine Ol.gp q0 (ldw (cs := f.cells.toArray) ag_api_Func (i := 0) rfl rfl) ?_
      refine Ol.gs q0 (cl (v := .bool (wholeF f)) en_ref03_shaped (fun M w' hh => ref03_shaped_ct (hf.now hh) hfit)) ?_
      refine Ol.gp q0 noti ?_
      refine Ol.p (pkFb q0) ?_
      refine Ol.nil ?_
      exact ⟨⟨rfl, rfl, trivial⟩, rfl⟩
  rintro σ' _ ⟨hs', rfl⟩
  refine Cd.has hs' ?_
  clear hs'
  refine Cd.cond rfl (fun h => ?_) (fun h => ?_)
  · rw [h] at ho
    have ho : okF f = false := ho
    refine Cd.seq ?_
    refine Cd.region ?_
    refine Ol.p asi ?_
    refine Ol.nil ?_
    exact Cd.ret ⟨.int .i64 0, ret1 rfl rfl, [], Keep.nil, by unfold sizeF; rw [ho]; rfl, rfl⟩
  rw [h] at ho
  have ho : okF f = true := ho
  obtain ⟨hl, hw⟩ := ok_parts ho
  obtain ⟨h0, h200, hp8, hi64⟩ := long_parts hl
  clear h
  refine Cd.skip ?_
  have e : sizeF f = (f.blocks.map fun b => b.ins.length + 1).sum := by unfold sizeF; rw [ho]; rfl
  refine Cd.seq ?_
  refine Cd.region ?_
  refine Ol.p asi ?_
  refine Ol.nil ?_
  refine Cd.seq ?_
  refine Cd.seq ?_
  refine Cd.region ?_
  refine Ol.p asi ?_
  refine Ol.nil ?_
  refine Cd.block ?_   -- 0
  refine Cd.loop (fun m σ L => ∃ k s, m = f.blocks.length - k ∧ k ≤ f.blocks.length ∧ s = ((f.blocks.take k).map fun b => b.ins.length + 1).sum ∧ s ≤ 65 * k ∧ Has σ [(1, .pointer (some ⟨g1, 0, none⟩)), (3, .int .i64 ((s : Nat) : Int)), (4, .int .i64 k)] ∧ [blk g1 (.cells f.cells.toArray 43)] = L) (n := f.blocks.length) ⟨0, 0, rfl, Nat.zero_le _, rfl, Nat.le_refl _, ⟨rfl, rfl, rfl, trivial⟩, rfl⟩ ?_
  rintro _ σ L ⟨k, s, rfl, hk, hsum, hs65, hs, rfl⟩
  refine Cd.has hs ?_
  clear hs
  refine Cd.seq ?_
  refine Cd.seq ?_
  refine Cd.region ?_
  refine Ol.p mvi ?_
  refine Ol.p (fdl fd_api_Func_1) ?_
  refine Ol.p (ld (v := .slice f.bA f.blocks.length f.bC) one_L_api_Block (Rd.blk (i := 0) rfl rfl)) ?_
  refine Ol.p (lens sl_L_api_Block) ?_
  refine Ol.p lsi ?_
  refine Ol.nil ?_
  refine Cd.cond rfl (fun h => ?_) (fun h => ?_)
  · have hlt := lt_of h
    obtain ⟨x, hx⟩ : ∃ x, f.blocks[k]? = some x := ⟨_, List.getElem?_eq_getElem hlt⟩
    have hx64 := hi64 x (List.mem_of_getElem? hx)
    refine Cd.skip ?_
    refine Cd.seq ?_
    refine Cd.block ?_   -- 1
    refine Cd.region ?_
    refine Ol.p mvi ?_
    refine Ol.p (fdl fd_api_Func_1) ?_
    refine Ol.p (ld (v := .slice f.bA f.blocks.length f.bC) one_L_api_Block (Rd.blk (i := 0) rfl rfl)) ?_
    refine Ol.p mvi ?_
    refine Ol.p (ixn (ix := k) sl_L_api_Block (Som.slc hf.blocks (by omega))) ?_
    refine Ol.p (fdp fd_api_Block_0) ?_
    refine Ol.p (ld (v := .slice x.iA x.ins.length x.iC) one_L_api_Ins (Rd.slc hf.blocks (ins_slc hx))) ?_
    refine Ol.p (lens sl_L_api_Ins) ?_
    refine Ol.p addi ?_
    refine Ol.p addi ?_
    refine Ol.p asi ?_
    refine Ol.nil ?_
    refine Cd.region ?_
    refine Ol.p mvi ?_
    refine Ol.p addi ?_
    refine Ol.p asi ?_
    refine Ol.nil ?_
    refine ⟨f.blocks.length - (k + 1), by omega, k + 1, s + (x.ins.length + 1), rfl, by omega, ?_, by omega, ⟨rfl, congrArg (Value.int .i64) (by omega), rfl, trivial⟩, rfl⟩
    rw [take_snoc_ hx, List.map_append, List.sum_append, ← hsum]
    simp
  have hge := ge_of h
  rw [List.take_of_length_le hge, ← e] at hsum
  refine Cd.exit (id := 0) ?_
  refine Cd.seq ?_
  refine Cd.region ?_
  refine Ol.p mvi ?_
  refine Ol.p asi ?_
  refine Ol.nil ?_
  exact Cd.ret ⟨.int .i64 ((s : Nat) : Int), ret1 rfl rfl, [], Keep.nil, by rw [hsum], rfl⟩
end
section
set_option maxHeartbeats 1000000 in
theorem ref03_Most_ct {w : World} {f : RFun} (hf : FunAt w w.heap.size f) (hfit : Fit f) : Ct Try.prog 34 #[f.val] w (Is (.tuple #[.int .i64 ((mostF f).1 : Nat), .int .i64 ((mostF f).2 : Nat)])) := by
  refine Ct.mk Try.func34 rfl rfl ?_
  refine Cd.seq ?_
  refine Cd.region ?_
  refine Ol.x bxg ?_
  rintro _ _ ⟨g1, rfl, rfl⟩
  refine Ol.p asi ?_
  refine Ol.p asi ?_
  refine Ol.nil ?_
  have ho : okF f = !(longF f || !wholeF f) := by unfold okF; cases longF f <;> cases wholeF f <;> rfl
  refine Cd.seq ?_
  refine Cd.mid (fun σ' L' => Has σ' [(1, .pointer (some ⟨g1, 0, none⟩)), (15, .bool (longF f || !wholeF f))] ∧ [blk g1 (.cells f.cells.toArray 43)] = L') ?_ ?_
  · cases q0 : longF f with
    | true =>
      refine Cd.region ?_
      refine Ol.p (ldw (cs := f.cells.toArray) ag_api_Func (i := 0) rfl rfl) ?_
      refine Ol.s (cl (v := .bool (longF f)) en_ref03_long (fun M w' hh => ref03_long_ct (hf.now hh) hfit)) ?_
      refine Ol.p mvb ?_
      refine Ol.gn q0 ?_
      refine Ol.gn q0 ?_
      refine Ol.gn q0 ?_
      refine Ol.p (pkTb q0) ?_
      refine Ol.nil ?_
      exact ⟨⟨rfl, rfl, trivial⟩, rfl⟩
    | false =>
      refine Cd.region ?_
      refine Ol.p (ldw (cs := f.cells.toArray) ag_api_Func (i := 0) rfl rfl) ?_
      refine Ol.s (cl (v := .bool (longF f)) en_ref03_long (fun M w' hh => ref03_long_ct (hf.now hh) hfit)) ?_
      refine Ol.p mvb ?_
      refine Ol.gp q0 (ldw (cs := f.cells.toArray) ag_api_Func (i := 0) rfl rfl) ?_
      refine Ol.gs q0 (cl (v := .bool (wholeF f)) en_ref03_shaped (fun M w' hh => ref03_shaped_ct (hf.now hh) hfit)) ?_
      refine Ol.gp q0 noti ?_
      refine Ol.p (pkFb q0) ?_
      refine Ol.nil ?_
      exact ⟨⟨rfl, rfl, trivial⟩, rfl⟩
  rintro σ' _ ⟨hs', rfl⟩
  refine Cd.has hs' ?_
  clear hs'
  refine Cd.cond rfl (fun h => ?_) (fun h => ?_)
  · rw [h] at ho
    have ho : okF f = false := ho
    refine Cd.seq ?_
    refine Cd.region ?_
    refine Ol.p asi ?_
    refine Ol.p asi ?_
    refine Ol.nil ?_
    exact Cd.ret ⟨.tuple #[.int .i64 0, .int .i64 0], ret2 rfl rfl rfl, [], Keep.nil, by unfold mostF; rw [ho]; rfl, rfl⟩
  rw [h] at ho
  have ho : okF f = true := ho
  obtain ⟨hl, hw⟩ := ok_parts ho
  obtain ⟨h0, h200, hp8, hi64⟩ := long_parts hl
  clear h
  refine Cd.skip ?_
  have e : mostF f = f.blocks.foldl blkMost (0, f.params.length) := by unfold mostF; rw [ho]; rfl
  refine Cd.seq ?_
  refine Cd.draw mixed 4 (fun _ => none) (fun _ => []) (by kernel_rfl) (fun _ _ h => by cases h) (fun u hu => ?_)
  refine Wk.p (fdl fd_api_Func_0) ?_
  refine Wk.p (ld (v := .slice f.pA f.params.length f.pC) one_L_int (Rd.blk (i := 0) rfl rfl)) ?_
  refine Wk.p (lens sl_L_int) ?_
  refine Wk.p asi ?_
  refine Wk.nil ?_
  refine Ol.p asi ?_
  refine Ol.nil ?_
  refine Cd.seq ?_
  refine Cd.seq ?_
  refine Cd.region ?_
  refine Ol.p asi ?_
  refine Ol.nil ?_
  refine Cd.block ?_   -- 0
  refine Cd.loop (fun m σ L => ∃ k a b, m = f.blocks.length - k ∧ k ≤ f.blocks.length ∧ (a, b) = (f.blocks.take k).foldl blkMost (0, f.params.length) ∧ Has σ [(1, .pointer (some ⟨g1, 0, none⟩)), (4, .int .i64 ((a : Nat) : Int)), (5, .int .i64 ((b : Nat) : Int)), (6, .int .i64 k)] ∧ [blk g1 (.cells f.cells.toArray 43)] = L) (n := f.blocks.length) ⟨0, 0, f.params.length, rfl, Nat.zero_le _, rfl, ⟨rfl, rfl, rfl, rfl, trivial⟩, rfl⟩ ?_
  rintro _ σ L ⟨k, a, b, rfl, hk, hab, hs, rfl⟩
  refine Cd.has hs ?_
  clear hs
  refine Cd.seq ?_
  refine Cd.seq ?_
  refine Cd.region ?_
  refine Ol.p mvi ?_
  refine Ol.p (fdl fd_api_Func_1) ?_
  refine Ol.p (ld (v := .slice f.bA f.blocks.length f.bC) one_L_api_Block (Rd.blk (i := 0) rfl rfl)) ?_
  refine Ol.p (lens sl_L_api_Block) ?_
  refine Ol.p lsi ?_
  refine Ol.nil ?_
  refine Cd.cond rfl (fun h => ?_) (fun h => ?_)
  · have hlt := lt_of h
    obtain ⟨x, hx⟩ : ∃ x, f.blocks[k]? = some x := ⟨_, List.getElem?_eq_getElem hlt⟩
    have hxm := List.mem_of_getElem? hx
    have hx64 := hi64 x hxm
    refine Cd.skip ?_
    refine Cd.seq ?_
    refine Cd.block ?_   -- 1
    refine Cd.mid (fun σ' L' => ∃ a' b', (a', b') = x.ins.foldl insMost (a, b) ∧ Has σ' [(1, .pointer (some ⟨g1, 0, none⟩)), (4, .int .i64 ((a' : Nat) : Int)), (5, .int .i64 ((b' : Nat) : Int)), (6, .int .i64 k)] ∧ [blk g1 (.cells f.cells.toArray 43)] = L') ?_ ?_
    · refine Cd.seq ?_
      refine Cd.region ?_
      refine Ol.p asi ?_
      refine Ol.nil ?_
      refine Cd.block ?_   -- 2
      refine Cd.loop (fun m σ L => ∃ j a' b', m = x.ins.length - j ∧ j ≤ x.ins.length ∧ (a', b') = (x.ins.take j).foldl insMost (a, b) ∧ Has σ [(1, .pointer (some ⟨g1, 0, none⟩)), (4, .int .i64 ((a' : Nat) : Int)), (5, .int .i64 ((b' : Nat) : Int)), (6, .int .i64 k), (7, .int .i64 j)] ∧ [blk g1 (.cells f.cells.toArray 43)] = L) (n := x.ins.length) ⟨0, a, b, rfl, Nat.zero_le _, rfl, ⟨rfl, rfl, rfl, rfl, rfl, trivial⟩, rfl⟩ ?_
      rintro _ σ L ⟨j, a', b', rfl, hj, hab', hs, rfl⟩
      refine Cd.has hs ?_
      clear hs
      refine Cd.seq ?_
      refine Cd.seq ?_
      refine Cd.region ?_
      refine Ol.p mvi ?_
      refine Ol.p (fdl fd_api_Func_1) ?_
      refine Ol.p (ld (v := .slice f.bA f.blocks.length f.bC) one_L_api_Block (Rd.blk (i := 0) rfl rfl)) ?_
      refine Ol.p mvi ?_
      refine Ol.p (ixn (ix := k) sl_L_api_Block (Som.slc hf.blocks (by omega))) ?_
      refine Ol.p (fdp fd_api_Block_0) ?_
      refine Ol.p (ld (v := .slice x.iA x.ins.length x.iC) one_L_api_Ins (Rd.slc hf.blocks (ins_slc hx))) ?_
      refine Ol.p (lens sl_L_api_Ins) ?_
      refine Ol.p lsi ?_
      refine Ol.nil ?_
      refine Cd.cond rfl (fun h2 => ?_) (fun h2 => ?_)
      · have hlt2 := lt_of h2
        obtain ⟨i, hi⟩ : ∃ i, x.ins[j]? = some i := ⟨_, List.getElem?_eq_getElem hlt2⟩
        have him := List.mem_of_getElem? hi
        have hial := hfit.alen x hxm i him
        refine Cd.skip ?_
        refine Cd.mid (fun σ' L' => Has σ' [(1, .pointer (some ⟨g1, 0, none⟩)), (4, .int .i64 (((insMost (a', b') i).1 : Nat) : Int)), (5, .int .i64 (((insMost (a', b') i).2 : Nat) : Int)), (6, .int .i64 k), (7, .int .i64 j)] ∧ [blk g1 (.cells f.cells.toArray 43)] = L') ?_ ?_
        · refine Cd.block ?_   -- 3
          refine Cd.seq ?_
          refine Cd.region ?_
          refine Ol.p (fdl fd_api_Func_1) ?_
          refine Ol.p (ld (v := .slice f.bA f.blocks.length f.bC) one_L_api_Block (Rd.blk (i := 0) rfl rfl)) ?_
          refine Ol.p mvi ?_
          refine Ol.p (ixn (ix := k) sl_L_api_Block (Som.slc hf.blocks (by omega))) ?_
          refine Ol.p (fdp fd_api_Block_0) ?_
          refine Ol.p (ld (v := .slice x.iA x.ins.length x.iC) one_L_api_Ins (Rd.slc hf.blocks (ins_slc hx))) ?_
          refine Ol.p mvi ?_
          refine Ol.p (ixn (ix := j) sl_L_api_Ins (Som.slc (hf.ins x hxm) (by omega))) ?_
          refine Ol.p (lds (es := i.cells) ag_api_Ins (hf.ins x hxm) i.len (fun q u hu => ins_cell hi hu)) ?_
          refine Ol.x (alc zr_api_Ins) ?_
          rintro _ _ ⟨g8, rfl, rfl⟩
          refine Ol.s (stw (vs := i.cells.toArray) sz_api_Ins rfl i.one (i := 0) rfl rfl) ?_
          refine Ol.nil ?_
          refine Cd.seq ?_
          refine Cd.region ?_
          refine Ol.p (fdl fd_api_Ins_0) ?_
          refine Ol.p (ld (v := .int .i64 i.op) one_api_Op (Rd.blk (i := 0) rfl rfl)) ?_
          refine Ol.p eqi ?_
          refine Ol.nil ?_
          refine Cd.cond rfl (fun h3 => ?_) (fun h3 => ?_)
          · have h3 : i.op = 13 := of_decide_eq_true h3
            have e3 : insMost (a', b') i = (a', max b' i.args.length) := by unfold insMost; rw [if_pos h3]
            rw [e3]
            refine Cd.region ?_
            refine Ol.p mvi ?_
            refine Ol.p (fdl fd_api_Ins_6) ?_
            refine Ol.p (ld (v := .slice i.aA i.args.length i.aC) one_L_int (Rd.blk (i := 0) rfl rfl)) ?_
            refine Ol.p (lens sl_L_int) ?_
            refine Ol.p maxi ?_
            refine Ol.p asi ?_
            refine Ol.keep (.sub (.cons _ (List.Sublist.refl _))) ?_
            refine Ol.nil ?_
            exact ⟨⟨rfl, rfl, congrArg (Value.int .i64) (max_val _ _), rfl, rfl, trivial⟩, rfl⟩
          have h3 : ¬ i.op = 13 := of_decide_eq_false h3
          obtain ⟨rl, hrl⟩ : ∃ rl, rl = readsL i := ⟨_, rfl⟩
          have e3 : insMost (a', b') i = (max a' rl.length, b') := by unfold insMost; rw [if_neg h3, hrl]
          rw [e3]
          refine Cd.region ?_
          refine Ol.p mvi ?_
          refine Ol.p (ldw (cs := i.cells.toArray) ag_api_Ins (i := 0) rfl rfl) ?_
          refine Ol.x (sp_call (vs := [i.val]) (R := NewL 3 1 rl.length (ints rl)) en_ref03_Reads (fun M w' hh => hrl ▸ ref03_Reads_ct ((hf.args x hxm i him).now hh) (by omega))) ?_
          rintro _ _ ⟨_, rfl, A56, c56, rfl, rfl⟩
          refine Ol.p (lens sl_L_int) ?_
          refine Ol.p maxi ?_
          refine Ol.p asi ?_
          refine Ol.keep (.sub (.cons _ (.cons _ (List.Sublist.refl _)))) ?_
          refine Ol.nil ?_
          exact ⟨⟨rfl, congrArg (Value.int .i64) (max_val _ _), rfl, rfl, rfl, trivial⟩, rfl⟩
        rintro σ' _ ⟨hs', rfl⟩
        refine Cd.has hs' ?_
        clear hs'
        refine Cd.region ?_
        refine Ol.p mvi ?_
        refine Ol.p addi ?_
        refine Ol.p asi ?_
        refine Ol.nil ?_
        refine ⟨x.ins.length - (j + 1), by omega, j + 1, _, _, rfl, by omega, ?_, ⟨rfl, rfl, rfl, rfl, rfl, trivial⟩, rfl⟩
        rw [take_snoc_ hi, List.foldl_append, ← hab']
        rfl
      have hge2 := ge_of h2
      rw [List.take_of_length_le hge2] at hab'
      refine Cd.exit (id := 2) ?_
      exact ⟨a', b', hab', ⟨rfl, rfl, rfl, rfl, trivial⟩, rfl⟩
    rintro σ' _ ⟨a', b', hab', hs', rfl⟩
    refine Cd.has hs' ?_
    clear hs'
    obtain ⟨nl, hnl⟩ : ∃ nl, nl = needsL x.term := ⟨_, rfl⟩
    have eb : blkMost (a, b) x = (max a' nl.length, b') := by
      unfold blkMost
      simp only
      rw [insMost_max, ← hab', hnl]
    refine Cd.region ?_
    refine Ol.p mvi ?_
    refine Ol.p (fdl fd_api_Func_1) ?_
    refine Ol.p (ld (v := .slice f.bA f.blocks.length f.bC) one_L_api_Block (Rd.blk (i := 0) rfl rfl)) ?_
    refine Ol.p mvi ?_
    refine Ol.p (ixn (ix := k) sl_L_api_Block (Som.slc hf.blocks (by omega))) ?_
    refine Ol.p (fdp fd_api_Block_1) ?_
    refine Ol.p (lds (es := x.term.cells) ag_api_Term hf.blocks rfl (tm_slc hx)) ?_
    refine Ol.x (sp_call (vs := [x.term.val]) (R := NewL 3 1 nl.length (ints nl)) en_ref03_Needs (fun M w' hh => hnl ▸ ref03_Needs_ct (t := x.term))) ?_
    rintro _ _ ⟨_, rfl, A66, c66, rfl, rfl⟩
    refine Ol.p (lens sl_L_int) ?_
    refine Ol.p maxi ?_
    refine Ol.p asi ?_
    refine Ol.keep (.sub (.cons _ (List.Sublist.refl _))) ?_
    refine Ol.nil ?_
    refine Cd.region ?_
    refine Ol.p mvi ?_
    refine Ol.p addi ?_
    refine Ol.p asi ?_
    refine Ol.nil ?_
    refine ⟨f.blocks.length - (k + 1), by omega, k + 1, max a' nl.length, b', rfl, by omega, ?_, ⟨rfl, congrArg (Value.int .i64) (max_val _ _), rfl, rfl, trivial⟩, rfl⟩
    rw [take_snoc_ hx, List.foldl_append, ← hab]
    exact eb.symm
  have hge := ge_of h
  rw [List.take_of_length_le hge, ← e] at hab
  refine Cd.exit (id := 0) ?_
  refine Cd.seq ?_
  refine Cd.region ?_
  refine Ol.p mvi ?_
  refine Ol.p mvi ?_
  refine Ol.p asi ?_
  refine Ol.p asi ?_
  refine Ol.nil ?_
  exact Cd.ret ⟨.tuple #[.int .i64 ((a : Nat) : Int), .int .i64 ((b : Nat) : Int)], ret2 rfl rfl rfl, [], Keep.nil, by rw [← hab], rfl⟩
end
section
theorem noteI_len (i : RIns) : (noteI i).length ≤ 11 := by
  unfold noteI
  have := readsL_ten i
  simp
  omega
theorem noteIs_len : ∀ l : List RIns, (l.flatMap noteI).length ≤ 11 * l.length
  | [] => by simp
  | i :: l => by
    have := noteI_len i
    have := noteIs_len l
    rw [List.flatMap_cons, List.length_append, List.length_cons]
    omega
theorem needsL_one (t : Tm) : (needsL t).length ≤ 1 := by
  rcases needs_one t with h | h <;> rw [h] <;> simp
theorem noteBs_len {m : Nat} : ∀ l : List RBlk, (∀ b ∈ l, b.ins.length ≤ m) → (l.flatMap noteB).length ≤ (11 * m + 1) * l.length
  | [], _ => by simp
  | b :: l, h => by
    have h1 := noteIs_len b.ins
    have h2 := h b (by simp)
    have h3 := needsL_one b.term
    have h4 := noteBs_len l fun x hx => h x (by simp [hx])
    rw [List.flatMap_cons, List.length_append, List.length_cons]
    unfold noteB
    rw [List.length_append]
    have h5 : 11 * b.ins.length ≤ 11 * m := Nat.mul_le_mul_left _ h2
    rw [Nat.mul_add]
    unfold noteB at h4
    omega
set_option maxHeartbeats 2000000 in
theorem ref03_all_ct {w : World} {f : RFun} (hf : FunAt w w.heap.size f) (hfit : Fit f) (h200 : f.blocks.length ≤ 200) (hp8 : f.params.length ≤ 8) (hi64 : ∀ b ∈ f.blocks, b.ins.length ≤ 64) : Ct Try.prog 88 #[f.val] w (NewL 3 1 (noteF f).length (ints (noteF f))) := by
  have hlen : ∀ k, ((f.blocks.take k).flatMap noteB).length ≤ 705 * 200 := fun k => by
    have := noteBs_len (m := 64) (f.blocks.take k) fun b hb => hi64 b (List.mem_of_mem_take hb)
    have h2 : (f.blocks.take k).length ≤ 200 := by rw [List.length_take]; omega
    omega
  refine Ct.mk Try.func88 rfl rfl ?_
  refine Cd.seq ?_
  refine Cd.region ?_
  refine Ol.x bxg ?_
  rintro _ _ ⟨g1, rfl, rfl⟩
  refine Ol.p ass ?_
  refine Ol.nil ?_
  refine Cd.seq ?_
  refine Cd.region ?_
  refine Ol.x (bsv [] sl_L_int zr_int (by simp)) ?_
  rintro _ _ ⟨gz, rfl, rfl⟩
  refine Ol.p (fdl fd_api_Func_0) ?_
  refine Ol.p (ld (v := .slice f.pA f.params.length f.pC) one_L_int (Rd.blk (i := 1) rfl rfl)) ?_
  refine Ol.x (apn (i := 0) (n := 0) (m := f.params.length) (xs := []) sl_L_int zr_int rfl (by decide) rfl (Src.slc hf.params) (ints_one _) (by unfold maxLen; omega) (by omega)) ?_
  rintro _ _ ⟨A0, c0, rfl, rfl⟩
  refine Ol.p ass ?_
  refine Ol.nil ?_
  refine Cd.seq ?_
  refine Cd.seq ?_
  refine Cd.region ?_
  refine Ol.p asi ?_
  refine Ol.nil ?_
  refine Cd.block ?_   -- 0
  refine Cd.loop (fun m σ L => ∃ (k : Nat) (A : Option Addr) (c : Nat) (nt : List Int), m = f.blocks.length - k ∧ k ≤ f.blocks.length ∧ nt = f.params ++ (f.blocks.take k).flatMap noteB ∧ Has σ [(1, .pointer (some ⟨g1, 0, none⟩)), (3, .slice A nt.length c), (4, .int .i64 k)] ∧ [row (.slice A nt.length c) 3 1 nt.length (ints nt), blk g1 (.cells f.cells.toArray 43)] = L) (n := f.blocks.length) ⟨0, A0, c0, f.params, rfl, Nat.zero_le _, by simp, ⟨rfl, congrArg (fun n => Value.slice A0 n c0) (Nat.zero_add _), rfl, trivial⟩, by rw [List.set_cons_zero, Nat.zero_add, List.nil_append]⟩ ?_
  rintro _ σ L ⟨k, A, c, nt, rfl, hk, hnt, hs, rfl⟩
  refine Cd.has hs ?_
  clear hs
  refine Cd.seq ?_
  refine Cd.seq ?_
  refine Cd.region ?_
  refine Ol.p mvi ?_
  refine Ol.p (fdl fd_api_Func_1) ?_
  refine Ol.p (ld (v := .slice f.bA f.blocks.length f.bC) one_L_api_Block (Rd.blk (i := 1) rfl rfl)) ?_
  refine Ol.p (lens sl_L_api_Block) ?_
  refine Ol.p lsi ?_
  refine Ol.nil ?_
  refine Cd.cond rfl (fun h => ?_) (fun h => ?_)
  · have hlt := lt_of h
    obtain ⟨x, hx⟩ : ∃ x, f.blocks[k]? = some x := ⟨_, List.getElem?_eq_getElem hlt⟩
    have hxm := List.mem_of_getElem? hx
    have hx64 := hi64 x hxm
    have hntl : nt.length ≤ 8 + 705 * 200 := by
      have := hlen k
      rw [hnt, List.length_append]; omega
    refine Cd.skip ?_
    refine Cd.seq ?_
    refine Cd.block ?_   -- 1
    refine Cd.mid (fun σ' L' => ∃ (A' : Option Addr) (c' : Nat) (nu : List Int), nu = nt ++ x.ins.flatMap noteI ∧ Has σ' [(1, .pointer (some ⟨g1, 0, none⟩)), (3, .slice A' nu.length c'), (4, .int .i64 k)] ∧ [row (.slice A' nu.length c') 3 1 nu.length (ints nu), blk g1 (.cells f.cells.toArray 43)] = L') ?_ ?_
    · refine Cd.seq ?_
      refine Cd.region ?_
      refine Ol.p asi ?_
      refine Ol.nil ?_
      refine Cd.block ?_   -- 2
      refine Cd.loop (fun m σ L => ∃ (j : Nat) (A' : Option Addr) (c' : Nat) (nu : List Int), m = x.ins.length - j ∧ j ≤ x.ins.length ∧ nu = nt ++ (x.ins.take j).flatMap noteI ∧ Has σ [(1, .pointer (some ⟨g1, 0, none⟩)), (3, .slice A' nu.length c'), (4, .int .i64 k), (5, .int .i64 j)] ∧ [row (.slice A' nu.length c') 3 1 nu.length (ints nu), blk g1 (.cells f.cells.toArray 43)] = L) (n := x.ins.length) ⟨0, A, c, nt, rfl, Nat.zero_le _, by simp, ⟨rfl, rfl, rfl, rfl, trivial⟩, rfl⟩ ?_
      rintro _ σ L ⟨j, A', c', nu, rfl, hj, hnu, hs, rfl⟩
      refine Cd.has hs ?_
      clear hs
      refine Cd.seq ?_
      refine Cd.seq ?_
      refine Cd.region ?_
      refine Ol.p mvi ?_
      refine Ol.p (fdl fd_api_Func_1) ?_
      refine Ol.p (ld (v := .slice f.bA f.blocks.length f.bC) one_L_api_Block (Rd.blk (i := 1) rfl rfl)) ?_
      refine Ol.p mvi ?_
      refine Ol.p (ixn (ix := k) sl_L_api_Block (Som.slc hf.blocks (by omega))) ?_
      refine Ol.p (fdp fd_api_Block_0) ?_
      refine Ol.p (ld (v := .slice x.iA x.ins.length x.iC) one_L_api_Ins (Rd.slc hf.blocks (ins_slc hx))) ?_
      refine Ol.p (lens sl_L_api_Ins) ?_
      refine Ol.p lsi ?_
      refine Ol.nil ?_
      refine Cd.cond rfl (fun h2 => ?_) (fun h2 => ?_)
      · have hlt2 := lt_of h2
        obtain ⟨i, hi⟩ : ∃ i, x.ins[j]? = some i := ⟨_, List.getElem?_eq_getElem hlt2⟩
        have him := List.mem_of_getElem? hi
        have hial := hfit.alen x hxm i him
        have hnul : nu.length ≤ 8 + 705 * 200 + 11 * 64 := by
          have h3 := noteIs_len (x.ins.take j)
          have h4 : (x.ins.take j).length ≤ 64 := by rw [List.length_take]; omega
          rw [hnu, List.length_append]; omega
        have hil := readsL_ten i
        obtain ⟨rl, hrl⟩ : ∃ rl, rl = readsL i := ⟨_, rfl⟩
        have hil' : rl.length ≤ 10 := hrl ▸ hil
        refine Cd.skip ?_
        refine Cd.seq ?_
        refine Cd.block ?_   -- 3
        refine Cd.seq ?_
        refine Cd.region ?_
        refine Ol.p (fdl fd_api_Func_1) ?_
        refine Ol.p (ld (v := .slice f.bA f.blocks.length f.bC) one_L_api_Block (Rd.blk (i := 1) rfl rfl)) ?_
        refine Ol.p mvi ?_
        refine Ol.p (ixn (ix := k) sl_L_api_Block (Som.slc hf.blocks (by omega))) ?_
        refine Ol.p (fdp fd_api_Block_0) ?_
        refine Ol.p (ld (v := .slice x.iA x.ins.length x.iC) one_L_api_Ins (Rd.slc hf.blocks (ins_slc hx))) ?_
        refine Ol.p mvi ?_
        refine Ol.p (ixn (ix := j) sl_L_api_Ins (Som.slc (hf.ins x hxm) (by omega))) ?_
        refine Ol.p (lds (es := i.cells) ag_api_Ins (hf.ins x hxm) i.len (fun q u hu => ins_cell hi hu)) ?_
        refine Ol.x (alc zr_api_Ins) ?_
        rintro _ _ ⟨g6, rfl, rfl⟩
        refine Ol.s (stw (vs := i.cells.toArray) sz_api_Ins rfl i.one (i := 0) rfl rfl) ?_
        refine Ol.nil ?_
        refine Cd.drawT (L0 := [blk g6 (.cells i.cells.toArray 25), blk g1 (.cells f.cells.toArray 43)]) mixed 8 (fun opNo => match opNo with | 2 => some (NewL 3 1 rl.length (ints rl)) | 3 => some (NewL 3 1 (nu.length + rl.length) (ints nu ++ ints rl)) | 5 => some (Is (.int .i64 (defI i))) | 6 => some (NewSv 3 1 1 1 [.int .i64 (defI i)]) | 7 => some (NewL 3 1 (nu.length + rl.length + 1) ((ints nu ++ ints rl) ++ [Value.int .i64 (defI i)])) | 1000 => some ((fun v R => v = undef ∧ R = [row (.slice A' nu.length c') 3 1 nu.length (ints nu)])) | _ => none) (fun opNo => match opNo with | 3 => [1000, 2] | 7 => [3, 6] | _ => []) (fun opNo => match opNo with | 3 => some 1000 | 7 => some 3 | _ => none) [1000] (fun tokNo => match tokNo with | 1000 => [row (.slice A' nu.length c') 3 1 nu.length (ints nu)] | _ => []) (by kernel_rfl) (perm_count fun _ x => by simp only [List.set_cons_zero, List.flatMap_cons, List.flatMap_nil, List.count_append, List.count_cons, List.count_nil]; omega) (by intro c hc; simp only [List.mem_cons, List.not_mem_nil, or_false] at hc; rcases hc with rfl <;> rfl) (by intro q V h; split at h <;> cases h; exact ⟨_, _, none, 0, rfl, rfl⟩; exact ⟨_, _, none, 0, rfl, rfl⟩; exact ⟨_, [], rfl, rfl⟩; exact ⟨_, _, 0, rfl, rfl⟩; exact ⟨_, _, none, 0, rfl, rfl⟩; exact ⟨_, _, rfl, rfl⟩) (fun u hu hu0 => ?_)
        refine WkT.p mvs ?_
        refine WkT.p (ldw (cs := i.cells.toArray) ag_api_Ins (i := 0) rfl rfl) ?_
        refine WkT.xn (V := NewL 3 1 rl.length (ints rl)) (l := []) (l2 := []) hu rfl rfl rfl (by rw [needs_none]; exact (sp_call (vs := [i.val]) en_ref03_Reads (fun M w' hh => hrl ▸ ref03_Reads_ct ((hf.args x hxm i him).now hh) (by omega)))) ?_
        rintro _ _ hu2 ⟨A40, c40, rfl, rfl⟩
        refine WkT.xn (V := NewL 3 1 (nu.length + rl.length) (ints nu ++ ints rl)) (l := [1000, 2]) (l2 := [2]) hu rfl rfl rfl (by rw [needs_cons (hu0 1000 (by simp)), needs_cons hu2, needs_none]; exact (Grow.adds (apn (i := 0) sl_L_int zr_int rfl (by decide) rfl (Src.row (i := 1) rfl (by simp [ints])) (ints_one _) (by unfold maxLen; omega) (by omega)))) ?_
        rintro _ _ hu3 ⟨A41, c41, rfl, rfl⟩
        refine WkT.p (ldw (cs := i.cells.toArray) ag_api_Ins (i := 0) rfl rfl) ?_
        refine WkT.xn (V := Is (.int .i64 (defI i))) (l := []) (l2 := []) hu rfl rfl rfl (by rw [needs_none]; exact (sp_call (vs := [i.val]) en_ref03_Defines (fun M w' hh => ref03_Defines_ct ((hf.args x hxm i him).now hh) (by omega)))) ?_
        rintro _ _ hu5 ⟨rfl, rfl⟩
        refine WkT.xn (V := NewSv 3 1 1 1 [.int .i64 (defI i)]) (l := []) (l2 := []) hu rfl rfl rfl (by rw [needs_none]; exact (NewS.adds (bsv [.int .i64 (defI i)] sl_L_int zr_int (by simp [Value.cells])))) ?_
        rintro _ _ hu6 ⟨g44, rfl, rfl⟩
        refine WkT.xn (V := NewL 3 1 (nu.length + rl.length + 1) ((ints nu ++ ints rl) ++ [Value.int .i64 (defI i)])) (l := [3, 6]) (l2 := [6]) hu rfl rfl rfl (by rw [needs_cons hu3, needs_cons hu6, needs_none]; exact (Grow.adds (apn (i := 0) (m := 1) sl_L_int zr_int rfl (by decide) rfl (Src.row (i := 1) rfl rfl) (by intro u hu; simp at hu; subst hu; rfl) (by unfold maxLen; omega) (by omega)))) ?_
        rintro _ _ hu7 ⟨A45, c45, rfl, rfl⟩
        refine WkT.nil ?_
        change Ol _ _ _ _ _ (needs u [7, 6, 5, 2] _)
        rw [needs_cons hu7, needs_cons hu6, needs_cons hu5, needs_cons hu2, needs_none]
        refine Ol.p ass ?_
        refine Ol.keep (.sub (.cons_cons _ (.cons _ (.cons _ (.cons _ (List.Sublist.refl _)))))) ?_
        refine Ol.nil ?_
        have e1 : nu.length + rl.length + 1 = (nt ++ (x.ins.take (j + 1)).flatMap noteI).length := by
          rw [take_snoc_ hi, List.flatMap_append, ← List.append_assoc, ← hnu, List.flatMap_singleton]
          unfold noteI
          simp [hrl]
          omega
        have e2 : (ints nu ++ ints rl) ++ [Value.int .i64 (defI i)] = ints (nt ++ (x.ins.take (j + 1)).flatMap noteI) := by
          rw [take_snoc_ hi, List.flatMap_append, ← List.append_assoc, ← hnu, List.flatMap_singleton]
          unfold noteI
          simp [ints, hrl]
        rw [e1, e2]
        refine Cd.region ?_
        refine Ol.p mvi ?_
        refine Ol.p addi ?_
        refine Ol.p asi ?_
        refine Ol.nil ?_
        exact ⟨x.ins.length - (j + 1), by omega, j + 1, _, _, _, rfl, by omega, rfl, ⟨rfl, rfl, rfl, rfl, trivial⟩, rfl⟩
      have hge2 := ge_of h2
      rw [List.take_of_length_le hge2] at hnu
      refine Cd.exit (id := 2) ?_
      exact ⟨A', c', nu, hnu, ⟨rfl, rfl, rfl, trivial⟩, rfl⟩
    rintro σ' _ ⟨A', c', nu, hnu, hs', rfl⟩
    refine Cd.has hs' ?_
    clear hs'
    have hnul : nu.length ≤ 8 + 705 * 200 + 11 * 64 := by
      have h3 := noteIs_len x.ins
      rw [hnu, List.length_append]; omega
    have hnd := needsL_one x.term
    obtain ⟨nl, hnl⟩ : ∃ nl, nl = needsL x.term := ⟨_, rfl⟩
    rw [← hnl] at hnd
    refine Cd.region ?_
    refine Ol.p mvs ?_
    refine Ol.p (fdl fd_api_Func_1) ?_
    refine Ol.p (ld (v := .slice f.bA f.blocks.length f.bC) one_L_api_Block (Rd.blk (i := 1) rfl rfl)) ?_
    refine Ol.p mvi ?_
    refine Ol.p (ixn (ix := k) sl_L_api_Block (Som.slc hf.blocks (by omega))) ?_
    refine Ol.p (fdp fd_api_Block_1) ?_
    refine Ol.p (lds (es := x.term.cells) ag_api_Term hf.blocks rfl (tm_slc hx)) ?_
    refine Ol.x (sp_call (vs := [x.term.val]) (R := NewL 3 1 nl.length (ints nl)) en_ref03_Needs (fun M w' hh => hnl ▸ ref03_Needs_ct (t := x.term))) ?_
    rintro _ _ ⟨_, rfl, A53, c53, rfl, rfl⟩
    refine Ol.x (apn (i := 1) sl_L_int zr_int rfl (by decide) rfl (Src.row (i := 0) rfl (by simp [ints])) (ints_one _) (by unfold maxLen; omega) (by omega)) ?_
    rintro _ _ ⟨A2, c2, rfl, rfl⟩
    refine Ol.p ass ?_
    refine Ol.keep (.sub (.cons _ (List.Sublist.refl _))) ?_
    refine Ol.nil ?_
    have e3 : f.params ++ (f.blocks.take (k + 1)).flatMap noteB = nu ++ nl := by
      rw [take_snoc_ hx, List.flatMap_append, ← List.append_assoc, ← hnt, List.flatMap_singleton, hnu, hnl]
      unfold noteB
      rw [List.append_assoc]
    have e1 : nu.length + nl.length = (f.params ++ (f.blocks.take (k + 1)).flatMap noteB).length := by rw [e3, List.length_append]
    have e2 : ints nu ++ ints nl = ints (f.params ++ (f.blocks.take (k + 1)).flatMap noteB) := by rw [e3]; simp [ints]
    rw [e1, e2]
    refine Cd.region ?_
    refine Ol.p mvi ?_
    refine Ol.p addi ?_
    refine Ol.p asi ?_
    refine Ol.nil ?_
    exact ⟨f.blocks.length - (k + 1), by omega, k + 1, _, _, _, rfl, by omega, rfl, ⟨rfl, rfl, rfl, trivial⟩, rfl⟩
  have hge := ge_of h
  rw [List.take_of_length_le hge] at hnt
  have hn : nt = noteF f := hnt
  rw [hn]
  refine Cd.exit (id := 0) ?_
  refine Cd.seq ?_
  refine Cd.region ?_
  refine Ol.p mvs ?_
  refine Ol.p ass ?_
  refine Ol.nil ?_
  exact Cd.ret ⟨.slice _ _ _, ret1 rfl rfl, _, .sub (.cons_cons _ (.cons _ .slnil)), _, _, rfl, rfl⟩
set_option maxHeartbeats 2000000 in
theorem ref03_Vars_ct {w : World} {f : RFun} (hf : FunAt w w.heap.size f) (hfit : Fit f) : Ct Try.prog 37 #[f.val] w (NewL 3 1 (varsF f).length (intsN (varsF f))) := by
  refine Ct.mk Try.func37 rfl rfl ?_
  refine Cd.seq ?_
  refine Cd.region ?_
  refine Ol.x bxg ?_
  rintro _ _ ⟨g1, rfl, rfl⟩
  refine Ol.p ass ?_
  refine Ol.nil ?_
  have ho : okF f = !(longF f || !wholeF f) := by unfold okF; cases longF f <;> cases wholeF f <;> rfl
  refine Cd.seq ?_
  refine Cd.mid (fun σ' L' => Has σ' [(1, .pointer (some ⟨g1, 0, none⟩)), (14, .bool (longF f || !wholeF f))] ∧ [blk g1 (.cells f.cells.toArray 43)] = L') ?_ ?_
  · cases q0 : longF f with
    | true =>
      refine Cd.region ?_
      refine Ol.p (ldw (cs := f.cells.toArray) ag_api_Func (i := 0) rfl rfl) ?_
      refine Ol.s (cl (v := .bool (longF f)) en_ref03_long (fun M w' hh => ref03_long_ct (hf.now hh) hfit)) ?_
      refine Ol.p mvb ?_
      refine Ol.gn q0 ?_
      refine Ol.gn q0 ?_
      refine Ol.gn q0 ?_
      refine Ol.p (pkTb q0) ?_
      refine Ol.nil ?_
      exact ⟨⟨rfl, rfl, trivial⟩, rfl⟩
    | false =>
      refine Cd.region ?_
      refine Ol.p (ldw (cs := f.cells.toArray) ag_api_Func (i := 0) rfl rfl) ?_
      refine Ol.s (cl (v := .bool (longF f)) en_ref03_long (fun M w' hh => ref03_long_ct (hf.now hh) hfit)) ?_
      refine Ol.p mvb ?_
      refine Ol.gp q0 (ldw (cs := f.cells.toArray) ag_api_Func (i := 0) rfl rfl) ?_
      refine Ol.gs q0 (cl (v := .bool (wholeF f)) en_ref03_shaped (fun M w' hh => ref03_shaped_ct (hf.now hh) hfit)) ?_
      refine Ol.gp q0 noti ?_
      refine Ol.p (pkFb q0) ?_
      refine Ol.nil ?_
      exact ⟨⟨rfl, rfl, trivial⟩, rfl⟩
  rintro σ' _ ⟨hs', rfl⟩
  refine Cd.has hs' ?_
  clear hs'
  refine Cd.cond rfl (fun h => ?_) (fun h => ?_)
  · rw [h] at ho
    have ho : okF f = false := ho
    refine Cd.seq ?_
    refine Cd.region ?_
    refine Ol.p ass ?_
    refine Ol.nil ?_
    have e : varsF f = [] := by unfold varsF; rw [ho]; rfl
    rw [e]
    refine Cd.nr 3 1 ?_
    exact Cd.ret ⟨.slice none 0 0, ret1 rfl rfl, _, .sub (.cons_cons _ (.cons _ .slnil)), none, 0, rfl, rfl⟩
  rw [h] at ho
  have ho : okF f = true := ho
  obtain ⟨hl, hw⟩ := ok_parts ho
  obtain ⟨h0, h200, hp8, hi64⟩ := long_parts hl
  clear h
  refine Cd.skip ?_
  obtain ⟨S, hS⟩ : ∃ S, S = putsV noS (noteF f) true := ⟨_, rfl⟩
  have e : varsF f = varsTo S 200 := by unfold varsF; rw [ho, if_pos rfl, hS]
  obtain ⟨nt, hnt⟩ : ∃ nt, nt = noteF f := ⟨_, rfl⟩
  have hSv : ∀ v : Nat, 1 ≤ v → S v = nt.any fun n => decide (n = (v : Int)) := fun v hv => by
    rw [Bool.eq_iff_iff, hS, putsV_iff, List.any_eq_true, ← hnt]
    simp only [noS, Bool.false_eq_true, false_or, decide_eq_true_eq]
    exact ⟨fun ⟨n, h1, h2⟩ => ⟨n, h1, by omega⟩, fun ⟨n, h1, h2⟩ => ⟨n, h1, by omega⟩⟩
  refine Cd.seq ?_
  refine Cd.region ?_
  refine Ol.p (ldw (cs := f.cells.toArray) ag_api_Func (i := 0) rfl rfl) ?_
  refine Ol.x (sp_call (vs := [f.val]) (R := NewL 3 1 nt.length (ints nt)) en_ref03_all (fun M w' hh => hnt ▸ ref03_all_ct (hf.now hh) hfit h200 hp8 hi64)) ?_
  rintro _ _ ⟨_, rfl, A16, c16, rfl, rfl⟩
  refine Ol.p ass ?_
  refine Ol.nil ?_
  have hntl : nt.length ≤ 8 + 705 * 200 := by
    have h3 := noteBs_len (m := 64) f.blocks hi64
    have h4 : (11 * 64 + 1) * f.blocks.length ≤ 705 * 200 := by omega
    rw [hnt]
    unfold noteF
    rw [List.length_append]; omega
  refine Cd.seq ?_
  refine Cd.region ?_
  refine Ol.p ass ?_
  refine Ol.nil ?_
  refine Cd.nr 3 1 ?_
  refine Cd.seq ?_
  refine Cd.seq ?_
  refine Cd.region ?_
  refine Ol.p asi ?_
  refine Ol.nil ?_
  refine Cd.block ?_   -- 0
  refine Cd.loop (fun m σ L => ∃ (k : Nat) (A : Option Addr) (c : Nat) (ou : List Nat), m = 200 - k ∧ k ≤ 200 ∧ ou = varsTo S k ∧ Has σ [(3, .slice A16 nt.length c16), (4, .slice A ou.length c), (5, .int .i64 ((k + 1 : Nat) : Int))] ∧ [row (.slice A ou.length c) 3 1 ou.length (intsN ou), row (.slice A16 nt.length c16) 3 1 nt.length (ints nt), blk g1 (.cells f.cells.toArray 43)] = L) (n := 200) ⟨0, none, 0, [], rfl, Nat.zero_le _, rfl, ⟨rfl, rfl, rfl, trivial⟩, rfl⟩ ?_
  rintro _ σ L ⟨k, A, c, ou, rfl, hk, hou, hs, rfl⟩
  refine Cd.has hs ?_
  clear hs
  have houl : ou.length ≤ 200 := by have := varsTo_len S k; rw [hou]; omega
  refine Cd.seq ?_
  refine Cd.seq ?_
  refine Cd.region ?_
  refine Ol.p mvi ?_
  refine Ol.p lei ?_
  refine Ol.nil ?_
  refine Cd.cond rfl (fun h => ?_) (fun h => ?_)
  · have hlt : k < 200 := by
      have h : decide (((k + 1 : Nat) : Int) ≤ 200) = true := h
      have := of_decide_eq_true h
      omega
    refine Cd.skip ?_
    refine Cd.mid (fun σ' L' => ∃ (A' : Option Addr) (c' : Nat) (ov : List Nat), ov = varsTo S (k + 1) ∧ Has σ' [(3, .slice A16 nt.length c16), (4, .slice A' ov.length c'), (5, .int .i64 ((k + 1 : Nat) : Int))] ∧ [row (.slice A' ov.length c') 3 1 ov.length (intsN ov), row (.slice A16 nt.length c16) 3 1 nt.length (ints nt), blk g1 (.cells f.cells.toArray 43)] = L') ?_ ?_
    · refine Cd.block ?_   -- 1
      refine Cd.seq ?_
      refine Cd.region ?_
      refine Ol.p asb ?_
      refine Ol.nil ?_
      refine Cd.mid (fun σ' L' => Has σ' [(3, .slice A16 nt.length c16), (4, .slice A ou.length c), (5, .int .i64 ((k + 1 : Nat) : Int)), (6, .bool (S (k + 1)))] ∧ [row (.slice A ou.length c) 3 1 ou.length (intsN ou), row (.slice A16 nt.length c16) 3 1 nt.length (ints nt), blk g1 (.cells f.cells.toArray 43)] = L') ?_ ?_
      · refine Cd.seq ?_
        refine Cd.region ?_
        refine Ol.p asi ?_
        refine Ol.nil ?_
        refine Cd.block ?_   -- 2
        refine Cd.loop (fun m σ L => ∃ j, m = nt.length - j ∧ j ≤ nt.length ∧ Has σ [(3, .slice A16 nt.length c16), (4, .slice A ou.length c), (5, .int .i64 ((k + 1 : Nat) : Int)), (6, .bool ((nt.take j).any fun n => decide (n = ((k + 1 : Nat) : Int)))), (7, .int .i64 j)] ∧ [row (.slice A ou.length c) 3 1 ou.length (intsN ou), row (.slice A16 nt.length c16) 3 1 nt.length (ints nt), blk g1 (.cells f.cells.toArray 43)] = L) (n := nt.length) ⟨0, rfl, Nat.zero_le _, ⟨rfl, rfl, rfl, rfl, rfl, trivial⟩, rfl⟩ ?_
        rintro _ σ L ⟨j, rfl, hj, hs, rfl⟩
        refine Cd.has hs ?_
        clear hs
        refine Cd.seq ?_
        refine Cd.seq ?_
        refine Cd.region ?_
        refine Ol.p mvi ?_
        refine Ol.p mvs ?_
        refine Ol.p (lens sl_L_int) ?_
        refine Ol.p lsi ?_
        refine Ol.nil ?_
        refine Cd.cond rfl (fun h2 => ?_) (fun h2 => ?_)
        · have hlt2 := lt_of h2
          obtain ⟨n, hn⟩ : ∃ n, nt[j]? = some n := ⟨_, List.getElem?_eq_getElem hlt2⟩
          have hany : ((nt.take (j + 1)).any fun n => decide (n = ((k + 1 : Nat) : Int))) = (((nt.take j).any fun n => decide (n = ((k + 1 : Nat) : Int))) || decide (n = ((k + 1 : Nat) : Int))) := by
            rw [take_snoc_ hn, List.any_append]
            simp
          refine Cd.skip ?_
          refine Cd.seq ?_
          refine Cd.block ?_   -- 3
          cases q1 : ((nt.take j).any fun n => decide (n = ((k + 1 : Nat) : Int))) with
          | true =>
            refine Cd.region ?_
            refine Ol.p mvb ?_
            refine Ol.p mvb ?_
            refine Ol.gn rfl ?_
            refine Ol.gn rfl ?_
            refine Ol.gn rfl ?_
            refine Ol.gn rfl ?_
            refine Ol.gn rfl ?_
            refine Ol.gn rfl ?_
            refine Ol.p (pkTb rfl) ?_
            refine Ol.p asb ?_
            refine Ol.nil ?_
            refine Cd.region ?_
            refine Ol.p mvi ?_
            refine Ol.p addi ?_
            refine Ol.p asi ?_
            refine Ol.nil ?_
            exact ⟨nt.length - (j + 1), by omega, j + 1, rfl, by omega, ⟨rfl, rfl, rfl, congrArg Value.bool (by rw [hany, q1]; rfl), rfl, trivial⟩, rfl⟩
          | false =>
            refine Cd.region ?_
            refine Ol.p mvb ?_
            refine Ol.p mvb ?_
            refine Ol.gp rfl mvs ?_
            refine Ol.gp rfl mvi ?_
            refine Ol.gp rfl (ixn (ix := j) sl_L_int (Som.row (i := 1) rfl (by omega))) ?_
            refine Ol.gp rfl (ld (v := .int .i64 n) one_int (Rd.row (i := 1) rfl (ints_at1 hn))) ?_
            refine Ol.gp rfl mvi ?_
            refine Ol.gp rfl eqi ?_
            refine Ol.p (pkFb rfl) ?_
            refine Ol.p asb ?_
            refine Ol.nil ?_
            refine Cd.region ?_
            refine Ol.p mvi ?_
            refine Ol.p addi ?_
            refine Ol.p asi ?_
            refine Ol.nil ?_
            exact ⟨nt.length - (j + 1), by omega, j + 1, rfl, by omega, ⟨rfl, rfl, rfl, congrArg Value.bool (by rw [hany, q1]; rfl), rfl, trivial⟩, rfl⟩
        have hge2 := ge_of h2
        rw [List.take_of_length_le hge2, ← hSv (k + 1) (by omega)]
        refine Cd.exit (id := 2) ?_
        exact ⟨⟨rfl, rfl, rfl, rfl, trivial⟩, rfl⟩
      rintro σ' _ ⟨hs', rfl⟩
      refine Cd.has hs' ?_
      clear hs'
      have hv := varsTo_succ S k
      refine Cd.seq ?_
      refine Cd.region ?_
      refine Ol.p mvb ?_
      refine Ol.nil ?_
      refine Cd.cond rfl (fun h3 => ?_) (fun h3 => ?_)
      · rw [h3, if_pos rfl, ← hou] at hv
        refine Cd.region ?_
        refine Ol.p mvs ?_
        refine Ol.p mvi ?_
        refine Ol.x (bsv [.int .i64 ((k + 1 : Nat) : Int)] sl_L_int zr_int (by simp [Value.cells])) ?_
        rintro _ _ ⟨g39, rfl, rfl⟩
        refine Ol.x (apn (i := 1) (m := 1) sl_L_int zr_int rfl (by decide) rfl (Src.row (i := 0) rfl rfl) (by intro u hu; simp at hu; subst hu; rfl) (by unfold maxLen; omega) (by omega)) ?_
        rintro _ _ ⟨A', c', rfl, rfl⟩
        refine Ol.p ass ?_
        refine Ol.keep (.sub (.cons _ (List.Sublist.refl _))) ?_
        refine Ol.nil ?_
        have e1 : ou.length + 1 = (varsTo S (k + 1)).length := by rw [hv]; simp
        have e2 : intsN ou ++ [Value.int .i64 ((k + 1 : Nat) : Int)] = intsN (varsTo S (k + 1)) := by rw [hv]; simp [intsN]
        rw [e1, e2]
        exact ⟨A', c', _, rfl, ⟨rfl, rfl, rfl, trivial⟩, rfl⟩
      rw [h3, if_neg (by decide), List.append_nil, ← hou] at hv
      refine Cd.skip ?_
      exact ⟨A, c, ou, hv.symm, ⟨rfl, rfl, rfl, trivial⟩, rfl⟩
    rintro σ' _ ⟨A', c', ov, hov, hs', rfl⟩
    refine Cd.has hs' ?_
    clear hs'
    refine Cd.region ?_
    refine Ol.p mvi ?_
    refine Ol.p addi ?_
    refine Ol.p asi ?_
    refine Ol.nil ?_
    exact ⟨200 - (k + 1), by omega, k + 1, A', c', ov, rfl, by omega, hov, ⟨rfl, rfl, rfl, trivial⟩, rfl⟩
  have hge : k = 200 := by
    have h : decide (((k + 1 : Nat) : Int) ≤ 200) = false := h
    have := of_decide_eq_false h
    omega
  rw [hge, ← e] at hou
  rw [hou]
  refine Cd.exit (id := 0) ?_
  refine Cd.seq ?_
  refine Cd.region ?_
  refine Ol.p mvs ?_
  refine Ol.p ass ?_
  refine Ol.nil ?_
  exact Cd.ret ⟨.slice _ _ _, ret1 rfl rfl, _, .sub (.cons_cons _ (.cons _ (.cons _ .slnil))), _, _, rfl, rfl⟩
end
end Go.Proofs.Ytcojedoejpcolaa

/- The package flow: what is reached, walked. -/
namespace Go.Proofs.Ytcojedoejpcolaa
set_option linter.unusedVariables false
open Go Go.RowKit
set_option maxRecDepth 100000

theorem enc_ne {s t : Nat} (hs : Sm s) (ht : Sm t) : decide (s = t) = true ↔ enc s = enc t := enc_iff hs ht
theorem intsN_get {l : List Nat} {k n : Nat} (h : l[k]? = some n) : (intsN l)[k]? = some (.int .i64 (n : Int)) := by simp [intsN, h]
theorem toAt_i64 {f : RFun} (hfit : Fit f) {b : RBlk} (hb : b ∈ f.blocks) : ∀ n ∈ toL b.term, I64 n := fun n hn => by
  unfold I64
  rcases toL_mem hn with e | e
  · exact hfit.term b hb _ (by simp [e])
  · exact hfit.term b hb _ (by simp [e])
end Go.Proofs.Ytcojedoejpcolaa

/- The package flow: the order of blocks, walked. -/
namespace Go.Proofs.Ytcojedoejpcolaa
set_option linter.unusedVariables false
open Go Go.RowKit
set_option maxRecDepth 100000

theorem foldl_snoc {α β : Type} {f : β → α → β} {l : List α} {k : Nat} {x : α} {a : β} (h : l[k]? = some x) : (l.take (k + 1)).foldl f a = f ((l.take k).foldl f a) x := by
  rw [take_snoc_ h, List.foldl_append]; rfl
end Go.Proofs.Ytcojedoejpcolaa

/- Structs of numbers, compared. -/
namespace Go.Proofs.Ytcojedoejpcolaa
set_option linter.unusedVariables false
open Go Go.RowKit
section
variable {P : Program} {w0 : World} {B : Nat} {σ : Env} {L : List Res} {d : Option Nat} {ty T : TypeId} {pos : String} {af : Array Edge} {gd : Option (Nat × Bool)} {x y z : Operand} {v : Value}
theorem run_eqFields_prim {xs ys : Array Value} {dd : Nat} (w : World) : ∀ fs : List Field, (∀ f ∈ fs, f.name ≠ "_" ∧ ∃ kd a b, primT P f.type kd ∧ xs[f.offset]? = some a ∧ ys[f.offset]? = some b ∧ Tell kd a b) → ∀ r : Bool, (r = true ↔ ∀ f ∈ fs, xs[f.offset]? = ys[f.offset]?) → (Op.eqFields (dd + 1) xs ys fs).run P w = .ok r w
  | [], _, r, hr => by
    have : r = true := hr.2 (by simp)
    simp [Op.eqFields, this]
  | f :: fs, h, r, hr => by
    obtain ⟨hn, kd, a, b, he, ha, hb, q, hs, hq⟩ := h f (by simp)
    have h1 := run_eq_prim (dd := dd) he.1 hs w
    have p1 : (part f.type xs f.offset).run P w = .ok a w := run_part_one he.one ha w
    have p2 : (part f.type ys f.offset).run P w = .ok b w := run_part_one he.one hb w
    simp only [Op.eqFields, hn, ne_eq, not_false_eq_true, if_true, Sem.run_bind, p1, p2, h1, Result.andThen_ok]
    cases q with
    | true =>
      have hab : a = b := hq.1 rfl
      have ih := run_eqFields_prim (dd := dd) w fs (fun j hj => h j (by simp [hj])) r (by
        rw [hr]
        simp [ha, hb, hab])
      simpa using ih
    | false =>
      have hab : a ≠ b := fun e => by have := hq.2 e; cases this
      have : r = false := by
        cases r with
        | false => rfl
        | true =>
          have := hr.1 rfl f (by simp)
          rw [ha, hb] at this
          exact absurd (Option.some.inj this) hab
      simp [this]
/-- A struct of n numbers. -/
def stI (P : Program) (T n : Nat) : Bool := match P.underlying T with
  | some (.struct fs) => fs.toList.all (fun f => (f.name != "_") && ((match P.underlying f.type with | some (.int _) => true | _ => false) && decide ((P.info? f.type).map (·.size) = some 1))) && decide (fs.toList.map (·.offset) = List.range n) && !P.stoodInHeld T && !P.eqGuardType P.depth T
  | _ => false
theorem run_equal_ints {n : Nat} {a b : List Int} (hT : stI P T n = true) (ha : a.length = n) (hb : b.length = n) (w : World) : (Op.equal T (.agg (ints a).toArray) (.agg (ints b).toArray)).run P w = .ok (decide (a = b)) w ∧ P.eqGuardType P.depth T = false := by
  unfold stI at hT
  split at hT
  · rename_i fs hu
    simp only [Bool.and_eq_true, List.all_eq_true, Bool.not_eq_true', decide_eq_true_eq] at hT
    obtain ⟨⟨⟨h1, h2⟩, h3⟩, h4⟩ := hT
    refine ⟨?_, h4⟩
    have hf : P.fieldsOf T = fs := by simp [Program.fieldsOf, hu]
    have := run_equalIn_struct (P := P) w 9999 T (ints a).toArray (ints b).toArray (by rw [hf]; exact hu) h3
    have e : (Op.equal T (.agg (ints a).toArray) (.agg (ints b).toArray)).run P w = (Op.equalIn (9999 + 1) T (.agg (ints a).toArray) (.agg (ints b).toArray)).run P w := rfl
    rw [e, this, hf]
    have hoff : ∀ f ∈ fs.toList, f.offset < n := fun f hf => by
      have : f.offset ∈ fs.toList.map (·.offset) := List.mem_map.2 ⟨f, hf, rfl⟩
      rw [h2] at this
      simpa using this
    have hall : ∀ i, i < n → ∃ f ∈ fs.toList, f.offset = i := fun i hi => by
      have : i ∈ fs.toList.map (·.offset) := by rw [h2]; simpa using hi
      simpa using this
    have hget : ∀ (l : List Int) (i : Nat) (hi : i < l.length), ((ints l).toArray)[i]? = some (.int .i64 l[i]) := fun l i hi => by simp [ints, hi]
    apply run_eqFields_prim (dd := 9998)
    · intro f hf
      obtain ⟨h5, h6, h7⟩ := h1 f hf
      refine ⟨by simpa using h5, ?_⟩
      have ho := hoff f hf
      split at h6
      · rename_i k hk
        exact ⟨.int k, _, _, ⟨hk, rfl, h7⟩, hget a _ (by omega), hget b _ (by omega), Tell.int⟩
      · cases h6
    · rw [decide_eq_true_iff]
      constructor
      · rintro rfl f _; rfl
      · intro h
        apply List.ext_getElem (by omega)
        intro i hi hj
        obtain ⟨f, hf, rfl⟩ := hall i (by omega)
        have := h f hf
        rw [hget a _ hi, hget b _ hj] at this
        simpa using this
  · cases hT
theorem eqs {u : TypeId} {n : Nat} {a b : List Int} (hT : stI P T n = true) (ha : a.length = n) (hb : b.length = n) (hx : ev σ x = .agg (ints a).toArray := by exact rfl) (hy : ev σ y = .agg (ints b).toArray := by exact rfl) :
    Sd P w0 B ⟨d, .binOp .eql T x y u, ty, pos, af, gd⟩ σ L (.bool (decide (a = b))) := sp_val fun w => by
  obtain ⟨h1, h2⟩ := run_equal_ints hT ha hb w
  simp [execOp, hx, hy, binOp, eqGuard_agg h2, h1]
theorem nes {u : TypeId} {n : Nat} {a b : List Int} (hT : stI P T n = true) (ha : a.length = n) (hb : b.length = n) (hx : ev σ x = .agg (ints a).toArray := by exact rfl) (hy : ev σ y = .agg (ints b).toArray := by exact rfl) :
    Sd P w0 B ⟨d, .binOp .neq T x y u, ty, pos, af, gd⟩ σ L (.bool (!decide (a = b))) := sp_val fun w => by
  obtain ⟨h1, h2⟩ := run_equal_ints hT ha hb w
  simp [execOp, hx, hy, binOp, eqGuard_agg h2, h1]
end
theorem st_api_Edge : stI Try.prog 85 3 = true := by kernel_rfl
end Go.Proofs.Ytcojedoejpcolaa

/- The law 10: its small functions, walked. -/
namespace Go.Proofs.Ytcojedoejpcolaa
set_option linter.unusedVariables false
open Go Go.RowKit
set_option maxRecDepth 100000


section
theorem ints_eq_of {a b : List Int} (hl : a.length = b.length) (h : ∀ i x y, i < a.length → a[i]? = some x → b[i]? = some y → x = y) : a = b := by
  apply List.ext_getElem hl
  intro i h1 h2
  exact h i _ _ h1 (List.getElem?_eq_getElem h1) (List.getElem?_eq_getElem h2)
theorem kit_SameInts_ct {w : World} {A B : Option Addr} {c d : Nat} {a b : List Int} (ha : Reads w w.heap.size 1 A a.length (ints a)) (hb : Reads w w.heap.size 1 B b.length (ints b)) (hal : a.length < 2 ^ 62) (hbl : b.length < 2 ^ 62) :
    Ct Try.prog 21 #[.slice A a.length c, .slice B b.length d] w (Is (.bool (decide (a = b)))) := by
  refine Ct.mk Try.func21 rfl rfl ?_
  refine Cd.seq ?_
  refine Cd.region ?_
  refine Ol.p asb ?_
  refine Ol.nil ?_
  refine Cd.seq ?_
  refine Cd.seq ?_
  refine Cd.region ?_
  refine Ol.p mvs ?_
  refine Ol.p (lens sl_L_int) ?_
  refine Ol.p mvs ?_
  refine Ol.p (lens sl_L_int) ?_
  refine Ol.p nei ?_
  refine Ol.nil ?_
  refine Cd.cond rfl (fun h => ?_) (fun h => ?_)
  · refine Cd.seq ?_
    refine Cd.region ?_
    refine Ol.p asb ?_
    refine Ol.nil ?_
    refine Cd.ret ⟨_, ret1 rfl rfl, [], .nil, ?_, rfl⟩
    have hne : a ≠ b := fun e => by subst e; simp at h
    rw [decide_eq_false hne]; rfl
  have hll : a.length = b.length := by
    have : (a.length : Int) = b.length := by simpa using h
    omega
  refine Cd.skip ?_
  refine Cd.seq ?_
  refine Cd.seq ?_
  refine Cd.region ?_
  refine Ol.p asi ?_
  refine Ol.nil ?_
  refine Cd.block ?_
  refine Cd.loop (fun m σ L => ∃ k, m = a.length - k ∧ k ≤ a.length ∧ Has σ [(0, .slice A a.length c), (1, .slice B b.length d), (5, .int .i64 k)] ∧ L = [] ∧ ∀ i x y, i < k → a[i]? = some x → b[i]? = some y → x = y) (n := a.length) ⟨0, rfl, Nat.zero_le _, ⟨rfl, rfl, rfl, trivial⟩, rfl, fun i x y h => by omega⟩ ?_
  rintro _ σ L ⟨k, rfl, hk, hs, rfl, hyes⟩
  refine Cd.has hs ?_
  refine Cd.seq ?_
  refine Cd.seq ?_
  refine Cd.region ?_
  refine Ol.p mvi ?_
  refine Ol.p mvs ?_
  refine Ol.p (lens sl_L_int) ?_
  refine Ol.p lsi ?_
  refine Ol.nil ?_
  refine Cd.cond rfl (fun h => ?_) (fun h => ?_)
  · have hlt : k < a.length := by simpa using h
    have hlt2 : k < b.length := by omega
    refine Cd.skip ?_
    refine Cd.seq ?_
    refine Cd.block ?_
    refine Cd.seq ?_
    refine Cd.draw mixed 9 (fun _ => none) (fun _ => []) (by kernel_rfl) (fun _ _ h => by cases h) (fun u hu => ?_)
    refine Wk.p mvs ?_
    refine Wk.p mvi ?_
    refine Wk.p (ixn1 sl_L_int (Som.slc ha (by omega))) ?_
    refine Wk.p (ld one_int (Rd.slc ha (ints_get hlt))) ?_
    refine Wk.p mvs ?_
    refine Wk.p mvi ?_
    refine Wk.p (ixn1 sl_L_int (Som.slc hb (by omega))) ?_
    refine Wk.p (ld one_int (Rd.slc hb (ints_get hlt2))) ?_
    refine Wk.p nei ?_
    refine Wk.nil ?_
    refine Ol.nil ?_
    refine Cd.cond rfl (fun h2 => ?_) (fun h2 => ?_)
    · refine Cd.seq ?_
      refine Cd.region ?_
      refine Ol.p asb ?_
      refine Ol.nil ?_
      refine Cd.ret ⟨_, ret1 rfl rfl, [], .nil, ?_, rfl⟩
      have hne : a ≠ b := fun e => by subst e; simp at h2
      rw [decide_eq_false hne]; rfl
    · refine Cd.skip ?_
      refine Cd.region ?_
      refine Ol.p mvi ?_
      refine Ol.p addi ?_
      refine Ol.p asi ?_
      refine Ol.nil ?_
      refine ⟨a.length - (k + 1), by omega, k + 1, rfl, by omega, ⟨rfl, rfl, rfl, trivial⟩, rfl, ?_⟩
      intro i x y hi hx hy
      rcases Nat.lt_or_ge i k with h3 | h3
      · exact hyes i x y h3 hx hy
      · have : i = k := by omega
        subst this
        rw [List.getElem?_eq_getElem hlt] at hx
        rw [List.getElem?_eq_getElem hlt2] at hy
        cases hx; cases hy
        simpa using h2
  · have hge : k = a.length := by
      have : ¬ (k : Int) < a.length := by simpa using h
      omega
    subst hge
    refine Cd.exit (id := 0) ?_
    refine Cd.seq ?_
    refine Cd.region ?_
    refine Ol.p asb ?_
    refine Ol.nil ?_
    refine Cd.ret ⟨_, ret1 rfl rfl, [], .nil, ?_, rfl⟩
    rw [decide_eq_true (ints_eq_of hll hyes)]; rfl
end


end Go.Proofs.Ytcojedoejpcolaa

/- The kit: functions are compared, walked. -/
namespace Go.Proofs.Ytcojedoejpcolaa
set_option linter.unusedVariables false
open Go Go.RowKit
set_option maxRecDepth 100000

noncomputable instance : DecidableEq RIns := fun _ _ => Classical.propDecidable _
noncomputable instance : DecidableEq RBlk := fun _ _ => Classical.propDecidable _
noncomputable instance : DecidableEq RFun := fun _ _ => Classical.propDecidable _
section
set_option maxHeartbeats 4000000 in
theorem kit_SameIns_ct {w : World} {a b : RIns} (ha : Reads w w.heap.size 1 a.aA a.args.length (ints a.args)) (hb : Reads w w.heap.size 1 b.aA b.args.length (ints b.args)) (hal : a.args.length < 2 ^ 60) (hbl : b.args.length < 2 ^ 60) : Ct Try.prog 151 #[a.val, b.val] w (Is (.bool (decide (a.bare = b.bare)))) := by
  refine Ct.mk Try.func151 rfl rfl ?_
  refine Cd.seq ?_
  refine Cd.region ?_
  refine Ol.x bxg ?_
  rintro _ _ ⟨g2, rfl, rfl⟩
  refine Ol.x bxg ?_
  rintro _ _ ⟨g3, rfl, rfl⟩
  refine Ol.p asb ?_
  refine Ol.nil ?_
  refine Cd.seq ?_
  cases h0 : decide (a.op = b.op) with
  | true =>
    cases h1 : decide (a.dst = b.dst) with
    | true =>
      cases h2 : decide (a.a = b.a) with
      | true =>
        cases h3 : decide (a.b = b.b) with
        | true =>
          cases h4 : decide (a.imm = b.imm) with
          | true =>
            cases h5 : decide (a.callee = b.callee) with
            | true =>
              cases h6 : decide (a.args = b.args) with
              | true =>
                refine Cd.region ?_
                refine Ol.p (fdl fd_api_Ins_0) ?_
                refine Ol.p (ld (v := .int .i64 a.op) one_api_Op (Rd.blk (i := 1) rfl rfl)) ?_
                refine Ol.p (fdl fd_api_Ins_0) ?_
                refine Ol.p (ld (v := .int .i64 b.op) one_api_Op (Rd.blk (i := 0) rfl rfl)) ?_
                refine Ol.p eqi ?_
                refine Ol.p mvb ?_
                refine Ol.gp h0 (fdl fd_api_Ins_1) ?_
                refine Ol.gp h0 (ld (v := .int .i64 a.dst) one_int (Rd.blk (i := 1) rfl rfl)) ?_
                refine Ol.gp h0 (fdl fd_api_Ins_1) ?_
                refine Ol.gp h0 (ld (v := .int .i64 b.dst) one_int (Rd.blk (i := 0) rfl rfl)) ?_
                refine Ol.gp h0 eqi ?_
                refine Ol.p (pkTb h0) ?_
                refine Ol.p mvb ?_
                refine Ol.gp h1 (fdl fd_api_Ins_2) ?_
                refine Ol.gp h1 (ld (v := .int .i64 a.a) one_int (Rd.blk (i := 1) rfl rfl)) ?_
                refine Ol.gp h1 (fdl fd_api_Ins_2) ?_
                refine Ol.gp h1 (ld (v := .int .i64 b.a) one_int (Rd.blk (i := 0) rfl rfl)) ?_
                refine Ol.gp h1 eqi ?_
                refine Ol.p (pkTb h1) ?_
                refine Ol.p mvb ?_
                refine Ol.gp h2 (fdl fd_api_Ins_3) ?_
                refine Ol.gp h2 (ld (v := .int .i64 a.b) one_int (Rd.blk (i := 1) rfl rfl)) ?_
                refine Ol.gp h2 (fdl fd_api_Ins_3) ?_
                refine Ol.gp h2 (ld (v := .int .i64 b.b) one_int (Rd.blk (i := 0) rfl rfl)) ?_
                refine Ol.gp h2 eqi ?_
                refine Ol.p (pkTb h2) ?_
                refine Ol.p mvb ?_
                refine Ol.gp h3 (fdl fd_api_Ins_4) ?_
                refine Ol.gp h3 (ld (v := .int .i64 a.imm) one_int (Rd.blk (i := 1) rfl rfl)) ?_
                refine Ol.gp h3 (fdl fd_api_Ins_4) ?_
                refine Ol.gp h3 (ld (v := .int .i64 b.imm) one_int (Rd.blk (i := 0) rfl rfl)) ?_
                refine Ol.gp h3 eqi ?_
                refine Ol.p (pkTb h3) ?_
                refine Ol.p mvb ?_
                refine Ol.gp h4 (fdl fd_api_Ins_5) ?_
                refine Ol.gp h4 (ld (v := .int .i64 a.callee) one_int (Rd.blk (i := 1) rfl rfl)) ?_
                refine Ol.gp h4 (fdl fd_api_Ins_5) ?_
                refine Ol.gp h4 (ld (v := .int .i64 b.callee) one_int (Rd.blk (i := 0) rfl rfl)) ?_
                refine Ol.gp h4 eqi ?_
                refine Ol.p (pkTb h4) ?_
                refine Ol.p mvb ?_
                refine Ol.gp h5 (fdl fd_api_Ins_6) ?_
                refine Ol.gp h5 (ld (v := .slice a.aA a.args.length a.aC) one_L_int (Rd.blk (i := 1) rfl rfl)) ?_
                refine Ol.gp h5 (fdl fd_api_Ins_6) ?_
                refine Ol.gp h5 (ld (v := .slice b.aA b.args.length b.aC) one_L_int (Rd.blk (i := 0) rfl rfl)) ?_
                refine Ol.gs h5 (cl en_kit_SameInts (fun M w' hh => kit_SameInts_ct (ha.now hh) (hb.now hh) (by omega) (by omega))) ?_
                refine Ol.p (pkTb h5) ?_
                refine Ol.p mvb ?_
                refine Ol.gp h6 (fdl fd_api_Ins_7) ?_
                refine Ol.gp h6 (ld (v := .int .i64 a.many) one_int (Rd.blk (i := 1) rfl rfl)) ?_
                refine Ol.gp h6 (fdl fd_api_Ins_7) ?_
                refine Ol.gp h6 (ld (v := .int .i64 b.many) one_int (Rd.blk (i := 0) rfl rfl)) ?_
                refine Ol.gp h6 eqi ?_
                refine Ol.p (pkTb h6) ?_
                refine Ol.p asb ?_
                refine Ol.nil ?_
                refine Cd.ret ⟨.bool _, ret1 rfl rfl, [], Keep.nil, congrArg Value.bool ?_, rfl⟩
                have q0 := of_decide_eq_true h0
                have q1 := of_decide_eq_true h1
                have q2 := of_decide_eq_true h2
                have q3 := of_decide_eq_true h3
                have q4 := of_decide_eq_true h4
                have q5 := of_decide_eq_true h5
                have q6 := of_decide_eq_true h6
                rw [decide_eq_decide]
                unfold RIns.bare
                simp [q0, q1, q2, q3, q4, q5, q6]
              | false =>
                refine Cd.region ?_
                refine Ol.p (fdl fd_api_Ins_0) ?_
                refine Ol.p (ld (v := .int .i64 a.op) one_api_Op (Rd.blk (i := 1) rfl rfl)) ?_
                refine Ol.p (fdl fd_api_Ins_0) ?_
                refine Ol.p (ld (v := .int .i64 b.op) one_api_Op (Rd.blk (i := 0) rfl rfl)) ?_
                refine Ol.p eqi ?_
                refine Ol.p mvb ?_
                refine Ol.gp h0 (fdl fd_api_Ins_1) ?_
                refine Ol.gp h0 (ld (v := .int .i64 a.dst) one_int (Rd.blk (i := 1) rfl rfl)) ?_
                refine Ol.gp h0 (fdl fd_api_Ins_1) ?_
                refine Ol.gp h0 (ld (v := .int .i64 b.dst) one_int (Rd.blk (i := 0) rfl rfl)) ?_
                refine Ol.gp h0 eqi ?_
                refine Ol.p (pkTb h0) ?_
                refine Ol.p mvb ?_
                refine Ol.gp h1 (fdl fd_api_Ins_2) ?_
                refine Ol.gp h1 (ld (v := .int .i64 a.a) one_int (Rd.blk (i := 1) rfl rfl)) ?_
                refine Ol.gp h1 (fdl fd_api_Ins_2) ?_
                refine Ol.gp h1 (ld (v := .int .i64 b.a) one_int (Rd.blk (i := 0) rfl rfl)) ?_
                refine Ol.gp h1 eqi ?_
                refine Ol.p (pkTb h1) ?_
                refine Ol.p mvb ?_
                refine Ol.gp h2 (fdl fd_api_Ins_3) ?_
                refine Ol.gp h2 (ld (v := .int .i64 a.b) one_int (Rd.blk (i := 1) rfl rfl)) ?_
                refine Ol.gp h2 (fdl fd_api_Ins_3) ?_
                refine Ol.gp h2 (ld (v := .int .i64 b.b) one_int (Rd.blk (i := 0) rfl rfl)) ?_
                refine Ol.gp h2 eqi ?_
                refine Ol.p (pkTb h2) ?_
                refine Ol.p mvb ?_
                refine Ol.gp h3 (fdl fd_api_Ins_4) ?_
                refine Ol.gp h3 (ld (v := .int .i64 a.imm) one_int (Rd.blk (i := 1) rfl rfl)) ?_
                refine Ol.gp h3 (fdl fd_api_Ins_4) ?_
                refine Ol.gp h3 (ld (v := .int .i64 b.imm) one_int (Rd.blk (i := 0) rfl rfl)) ?_
                refine Ol.gp h3 eqi ?_
                refine Ol.p (pkTb h3) ?_
                refine Ol.p mvb ?_
                refine Ol.gp h4 (fdl fd_api_Ins_5) ?_
                refine Ol.gp h4 (ld (v := .int .i64 a.callee) one_int (Rd.blk (i := 1) rfl rfl)) ?_
                refine Ol.gp h4 (fdl fd_api_Ins_5) ?_
                refine Ol.gp h4 (ld (v := .int .i64 b.callee) one_int (Rd.blk (i := 0) rfl rfl)) ?_
                refine Ol.gp h4 eqi ?_
                refine Ol.p (pkTb h4) ?_
                refine Ol.p mvb ?_
                refine Ol.gp h5 (fdl fd_api_Ins_6) ?_
                refine Ol.gp h5 (ld (v := .slice a.aA a.args.length a.aC) one_L_int (Rd.blk (i := 1) rfl rfl)) ?_
                refine Ol.gp h5 (fdl fd_api_Ins_6) ?_
                refine Ol.gp h5 (ld (v := .slice b.aA b.args.length b.aC) one_L_int (Rd.blk (i := 0) rfl rfl)) ?_
                refine Ol.gs h5 (cl en_kit_SameInts (fun M w' hh => kit_SameInts_ct (ha.now hh) (hb.now hh) (by omega) (by omega))) ?_
                refine Ol.p (pkTb h5) ?_
                refine Ol.p mvb ?_
                refine Ol.gn h6 ?_
                refine Ol.gn h6 ?_
                refine Ol.gn h6 ?_
                refine Ol.gn h6 ?_
                refine Ol.gn h6 ?_
                refine Ol.p (pkFb h6) ?_
                refine Ol.p asb ?_
                refine Ol.nil ?_
                refine Cd.ret ⟨.bool false, ret1 rfl rfl, [], Keep.nil, congrArg Value.bool ?_, rfl⟩
                exact (decide_eq_false fun e => of_decide_eq_false h6 (congrArg RIns.args e : a.bare.args = b.bare.args)).symm
            | false =>
              refine Cd.region ?_
              refine Ol.p (fdl fd_api_Ins_0) ?_
              refine Ol.p (ld (v := .int .i64 a.op) one_api_Op (Rd.blk (i := 1) rfl rfl)) ?_
              refine Ol.p (fdl fd_api_Ins_0) ?_
              refine Ol.p (ld (v := .int .i64 b.op) one_api_Op (Rd.blk (i := 0) rfl rfl)) ?_
              refine Ol.p eqi ?_
              refine Ol.p mvb ?_
              refine Ol.gp h0 (fdl fd_api_Ins_1) ?_
              refine Ol.gp h0 (ld (v := .int .i64 a.dst) one_int (Rd.blk (i := 1) rfl rfl)) ?_
              refine Ol.gp h0 (fdl fd_api_Ins_1) ?_
              refine Ol.gp h0 (ld (v := .int .i64 b.dst) one_int (Rd.blk (i := 0) rfl rfl)) ?_
              refine Ol.gp h0 eqi ?_
              refine Ol.p (pkTb h0) ?_
              refine Ol.p mvb ?_
              refine Ol.gp h1 (fdl fd_api_Ins_2) ?_
              refine Ol.gp h1 (ld (v := .int .i64 a.a) one_int (Rd.blk (i := 1) rfl rfl)) ?_
              refine Ol.gp h1 (fdl fd_api_Ins_2) ?_
              refine Ol.gp h1 (ld (v := .int .i64 b.a) one_int (Rd.blk (i := 0) rfl rfl)) ?_
              refine Ol.gp h1 eqi ?_
              refine Ol.p (pkTb h1) ?_
              refine Ol.p mvb ?_
              refine Ol.gp h2 (fdl fd_api_Ins_3) ?_
              refine Ol.gp h2 (ld (v := .int .i64 a.b) one_int (Rd.blk (i := 1) rfl rfl)) ?_
              refine Ol.gp h2 (fdl fd_api_Ins_3) ?_
              refine Ol.gp h2 (ld (v := .int .i64 b.b) one_int (Rd.blk (i := 0) rfl rfl)) ?_
              refine Ol.gp h2 eqi ?_
              refine Ol.p (pkTb h2) ?_
              refine Ol.p mvb ?_
              refine Ol.gp h3 (fdl fd_api_Ins_4) ?_
              refine Ol.gp h3 (ld (v := .int .i64 a.imm) one_int (Rd.blk (i := 1) rfl rfl)) ?_
              refine Ol.gp h3 (fdl fd_api_Ins_4) ?_
              refine Ol.gp h3 (ld (v := .int .i64 b.imm) one_int (Rd.blk (i := 0) rfl rfl)) ?_
              refine Ol.gp h3 eqi ?_
              refine Ol.p (pkTb h3) ?_
              refine Ol.p mvb ?_
              refine Ol.gp h4 (fdl fd_api_Ins_5) ?_
              refine Ol.gp h4 (ld (v := .int .i64 a.callee) one_int (Rd.blk (i := 1) rfl rfl)) ?_
              refine Ol.gp h4 (fdl fd_api_Ins_5) ?_
              refine Ol.gp h4 (ld (v := .int .i64 b.callee) one_int (Rd.blk (i := 0) rfl rfl)) ?_
              refine Ol.gp h4 eqi ?_
              refine Ol.p (pkTb h4) ?_
              refine Ol.p mvb ?_
              refine Ol.gn h5 ?_
              refine Ol.gn h5 ?_
              refine Ol.gn h5 ?_
              refine Ol.gn h5 ?_
              refine Ol.gn h5 ?_
              refine Ol.p (pkFb h5) ?_
              refine Ol.p mvb ?_
              refine Ol.gn rfl ?_
              refine Ol.gn rfl ?_
              refine Ol.gn rfl ?_
              refine Ol.gn rfl ?_
              refine Ol.gn rfl ?_
              refine Ol.p (pkFb rfl) ?_
              refine Ol.p asb ?_
              refine Ol.nil ?_
              refine Cd.ret ⟨.bool false, ret1 rfl rfl, [], Keep.nil, congrArg Value.bool ?_, rfl⟩
              exact (decide_eq_false fun e => of_decide_eq_false h5 (congrArg RIns.callee e : a.bare.callee = b.bare.callee)).symm
          | false =>
            refine Cd.region ?_
            refine Ol.p (fdl fd_api_Ins_0) ?_
            refine Ol.p (ld (v := .int .i64 a.op) one_api_Op (Rd.blk (i := 1) rfl rfl)) ?_
            refine Ol.p (fdl fd_api_Ins_0) ?_
            refine Ol.p (ld (v := .int .i64 b.op) one_api_Op (Rd.blk (i := 0) rfl rfl)) ?_
            refine Ol.p eqi ?_
            refine Ol.p mvb ?_
            refine Ol.gp h0 (fdl fd_api_Ins_1) ?_
            refine Ol.gp h0 (ld (v := .int .i64 a.dst) one_int (Rd.blk (i := 1) rfl rfl)) ?_
            refine Ol.gp h0 (fdl fd_api_Ins_1) ?_
            refine Ol.gp h0 (ld (v := .int .i64 b.dst) one_int (Rd.blk (i := 0) rfl rfl)) ?_
            refine Ol.gp h0 eqi ?_
            refine Ol.p (pkTb h0) ?_
            refine Ol.p mvb ?_
            refine Ol.gp h1 (fdl fd_api_Ins_2) ?_
            refine Ol.gp h1 (ld (v := .int .i64 a.a) one_int (Rd.blk (i := 1) rfl rfl)) ?_
            refine Ol.gp h1 (fdl fd_api_Ins_2) ?_
            refine Ol.gp h1 (ld (v := .int .i64 b.a) one_int (Rd.blk (i := 0) rfl rfl)) ?_
            refine Ol.gp h1 eqi ?_
            refine Ol.p (pkTb h1) ?_
            refine Ol.p mvb ?_
            refine Ol.gp h2 (fdl fd_api_Ins_3) ?_
            refine Ol.gp h2 (ld (v := .int .i64 a.b) one_int (Rd.blk (i := 1) rfl rfl)) ?_
            refine Ol.gp h2 (fdl fd_api_Ins_3) ?_
            refine Ol.gp h2 (ld (v := .int .i64 b.b) one_int (Rd.blk (i := 0) rfl rfl)) ?_
            refine Ol.gp h2 eqi ?_
            refine Ol.p (pkTb h2) ?_
            refine Ol.p mvb ?_
            refine Ol.gp h3 (fdl fd_api_Ins_4) ?_
            refine Ol.gp h3 (ld (v := .int .i64 a.imm) one_int (Rd.blk (i := 1) rfl rfl)) ?_
            refine Ol.gp h3 (fdl fd_api_Ins_4) ?_
            refine Ol.gp h3 (ld (v := .int .i64 b.imm) one_int (Rd.blk (i := 0) rfl rfl)) ?_
            refine Ol.gp h3 eqi ?_
            refine Ol.p (pkTb h3) ?_
            refine Ol.p mvb ?_
            refine Ol.gn h4 ?_
            refine Ol.gn h4 ?_
            refine Ol.gn h4 ?_
            refine Ol.gn h4 ?_
            refine Ol.gn h4 ?_
            refine Ol.p (pkFb h4) ?_
            refine Ol.p mvb ?_
            refine Ol.gn rfl ?_
            refine Ol.gn rfl ?_
            refine Ol.gn rfl ?_
            refine Ol.gn rfl ?_
            refine Ol.gn rfl ?_
            refine Ol.p (pkFb rfl) ?_
            refine Ol.p mvb ?_
            refine Ol.gn rfl ?_
            refine Ol.gn rfl ?_
            refine Ol.gn rfl ?_
            refine Ol.gn rfl ?_
            refine Ol.gn rfl ?_
            refine Ol.p (pkFb rfl) ?_
            refine Ol.p asb ?_
            refine Ol.nil ?_
            refine Cd.ret ⟨.bool false, ret1 rfl rfl, [], Keep.nil, congrArg Value.bool ?_, rfl⟩
            exact (decide_eq_false fun e => of_decide_eq_false h4 (congrArg RIns.imm e : a.bare.imm = b.bare.imm)).symm
        | false =>
          refine Cd.region ?_
          refine Ol.p (fdl fd_api_Ins_0) ?_
          refine Ol.p (ld (v := .int .i64 a.op) one_api_Op (Rd.blk (i := 1) rfl rfl)) ?_
          refine Ol.p (fdl fd_api_Ins_0) ?_
          refine Ol.p (ld (v := .int .i64 b.op) one_api_Op (Rd.blk (i := 0) rfl rfl)) ?_
          refine Ol.p eqi ?_
          refine Ol.p mvb ?_
          refine Ol.gp h0 (fdl fd_api_Ins_1) ?_
          refine Ol.gp h0 (ld (v := .int .i64 a.dst) one_int (Rd.blk (i := 1) rfl rfl)) ?_
          refine Ol.gp h0 (fdl fd_api_Ins_1) ?_
          refine Ol.gp h0 (ld (v := .int .i64 b.dst) one_int (Rd.blk (i := 0) rfl rfl)) ?_
          refine Ol.gp h0 eqi ?_
          refine Ol.p (pkTb h0) ?_
          refine Ol.p mvb ?_
          refine Ol.gp h1 (fdl fd_api_Ins_2) ?_
          refine Ol.gp h1 (ld (v := .int .i64 a.a) one_int (Rd.blk (i := 1) rfl rfl)) ?_
          refine Ol.gp h1 (fdl fd_api_Ins_2) ?_
          refine Ol.gp h1 (ld (v := .int .i64 b.a) one_int (Rd.blk (i := 0) rfl rfl)) ?_
          refine Ol.gp h1 eqi ?_
          refine Ol.p (pkTb h1) ?_
          refine Ol.p mvb ?_
          refine Ol.gp h2 (fdl fd_api_Ins_3) ?_
          refine Ol.gp h2 (ld (v := .int .i64 a.b) one_int (Rd.blk (i := 1) rfl rfl)) ?_
          refine Ol.gp h2 (fdl fd_api_Ins_3) ?_
          refine Ol.gp h2 (ld (v := .int .i64 b.b) one_int (Rd.blk (i := 0) rfl rfl)) ?_
          refine Ol.gp h2 eqi ?_
          refine Ol.p (pkTb h2) ?_
          refine Ol.p mvb ?_
          refine Ol.gn h3 ?_
          refine Ol.gn h3 ?_
          refine Ol.gn h3 ?_
          refine Ol.gn h3 ?_
          refine Ol.gn h3 ?_
          refine Ol.p (pkFb h3) ?_
          refine Ol.p mvb ?_
          refine Ol.gn rfl ?_
          refine Ol.gn rfl ?_
          refine Ol.gn rfl ?_
          refine Ol.gn rfl ?_
          refine Ol.gn rfl ?_
          refine Ol.p (pkFb rfl) ?_
          refine Ol.p mvb ?_
          refine Ol.gn rfl ?_
          refine Ol.gn rfl ?_
          refine Ol.gn rfl ?_
          refine Ol.gn rfl ?_
          refine Ol.gn rfl ?_
          refine Ol.p (pkFb rfl) ?_
          refine Ol.p mvb ?_
          refine Ol.gn rfl ?_
          refine Ol.gn rfl ?_
          refine Ol.gn rfl ?_
          refine Ol.gn rfl ?_
          refine Ol.gn rfl ?_
          refine Ol.p (pkFb rfl) ?_
          refine Ol.p asb ?_
          refine Ol.nil ?_
          refine Cd.ret ⟨.bool false, ret1 rfl rfl, [], Keep.nil, congrArg Value.bool ?_, rfl⟩
          exact (decide_eq_false fun e => of_decide_eq_false h3 (congrArg RIns.b e : a.bare.b = b.bare.b)).symm
      | false =>
        refine Cd.region ?_
        refine Ol.p (fdl fd_api_Ins_0) ?_
        refine Ol.p (ld (v := .int .i64 a.op) one_api_Op (Rd.blk (i := 1) rfl rfl)) ?_
        refine Ol.p (fdl fd_api_Ins_0) ?_
        refine Ol.p (ld (v := .int .i64 b.op) one_api_Op (Rd.blk (i := 0) rfl rfl)) ?_
        refine Ol.p eqi ?_
        refine Ol.p mvb ?_
        refine Ol.gp h0 (fdl fd_api_Ins_1) ?_
        refine Ol.gp h0 (ld (v := .int .i64 a.dst) one_int (Rd.blk (i := 1) rfl rfl)) ?_
        refine Ol.gp h0 (fdl fd_api_Ins_1) ?_
        refine Ol.gp h0 (ld (v := .int .i64 b.dst) one_int (Rd.blk (i := 0) rfl rfl)) ?_
        refine Ol.gp h0 eqi ?_
        refine Ol.p (pkTb h0) ?_
        refine Ol.p mvb ?_
        refine Ol.gp h1 (fdl fd_api_Ins_2) ?_
        refine Ol.gp h1 (ld (v := .int .i64 a.a) one_int (Rd.blk (i := 1) rfl rfl)) ?_
        refine Ol.gp h1 (fdl fd_api_Ins_2) ?_
        refine Ol.gp h1 (ld (v := .int .i64 b.a) one_int (Rd.blk (i := 0) rfl rfl)) ?_
        refine Ol.gp h1 eqi ?_
        refine Ol.p (pkTb h1) ?_
        refine Ol.p mvb ?_
        refine Ol.gn h2 ?_
        refine Ol.gn h2 ?_
        refine Ol.gn h2 ?_
        refine Ol.gn h2 ?_
        refine Ol.gn h2 ?_
        refine Ol.p (pkFb h2) ?_
        refine Ol.p mvb ?_
        refine Ol.gn rfl ?_
        refine Ol.gn rfl ?_
        refine Ol.gn rfl ?_
        refine Ol.gn rfl ?_
        refine Ol.gn rfl ?_
        refine Ol.p (pkFb rfl) ?_
        refine Ol.p mvb ?_
        refine Ol.gn rfl ?_
        refine Ol.gn rfl ?_
        refine Ol.gn rfl ?_
        refine Ol.gn rfl ?_
        refine Ol.gn rfl ?_
        refine Ol.p (pkFb rfl) ?_
        refine Ol.p mvb ?_
        refine Ol.gn rfl ?_
        refine Ol.gn rfl ?_
        refine Ol.gn rfl ?_
        refine Ol.gn rfl ?_
        refine Ol.gn rfl ?_
        refine Ol.p (pkFb rfl) ?_
        refine Ol.p mvb ?_
        refine Ol.gn rfl ?_
        refine Ol.gn rfl ?_
        refine Ol.gn rfl ?_
        refine Ol.gn rfl ?_
        refine Ol.gn rfl ?_
        refine Ol.p (pkFb rfl) ?_
        refine Ol.p asb ?_
        refine Ol.nil ?_
        refine Cd.ret ⟨.bool false, ret1 rfl rfl, [], Keep.nil, congrArg Value.bool ?_, rfl⟩
        exact (decide_eq_false fun e => of_decide_eq_false h2 (congrArg RIns.a e : a.bare.a = b.bare.a)).symm
    | false =>
      refine Cd.region ?_
      refine Ol.p (fdl fd_api_Ins_0) ?_
      refine Ol.p (ld (v := .int .i64 a.op) one_api_Op (Rd.blk (i := 1) rfl rfl)) ?_
      refine Ol.p (fdl fd_api_Ins_0) ?_
      refine Ol.p (ld (v := .int .i64 b.op) one_api_Op (Rd.blk (i := 0) rfl rfl)) ?_
      refine Ol.p eqi ?_
      refine Ol.p mvb ?_
      refine Ol.gp h0 (fdl fd_api_Ins_1) ?_
      refine Ol.gp h0 (ld (v := .int .i64 a.dst) one_int (Rd.blk (i := 1) rfl rfl)) ?_
      refine Ol.gp h0 (fdl fd_api_Ins_1) ?_
      refine Ol.gp h0 (ld (v := .int .i64 b.dst) one_int (Rd.blk (i := 0) rfl rfl)) ?_
      refine Ol.gp h0 eqi ?_
      refine Ol.p (pkTb h0) ?_
      refine Ol.p mvb ?_
      refine Ol.gn h1 ?_
      refine Ol.gn h1 ?_
      refine Ol.gn h1 ?_
      refine Ol.gn h1 ?_
      refine Ol.gn h1 ?_
      refine Ol.p (pkFb h1) ?_
      refine Ol.p mvb ?_
      refine Ol.gn rfl ?_
      refine Ol.gn rfl ?_
      refine Ol.gn rfl ?_
      refine Ol.gn rfl ?_
      refine Ol.gn rfl ?_
      refine Ol.p (pkFb rfl) ?_
      refine Ol.p mvb ?_
      refine Ol.gn rfl ?_
      refine Ol.gn rfl ?_
      refine Ol.gn rfl ?_
      refine Ol.gn rfl ?_
      refine Ol.gn rfl ?_
      refine Ol.p (pkFb rfl) ?_
      refine Ol.p mvb ?_
      refine Ol.gn rfl ?_
      refine Ol.gn rfl ?_
      refine Ol.gn rfl ?_
      refine Ol.gn rfl ?_
      refine Ol.gn rfl ?_
      refine Ol.p (pkFb rfl) ?_
      refine Ol.p mvb ?_
      refine Ol.gn rfl ?_
      refine Ol.gn rfl ?_
      refine Ol.gn rfl ?_
      refine Ol.gn rfl ?_
      refine Ol.gn rfl ?_
      refine Ol.p (pkFb rfl) ?_
      refine Ol.p mvb ?_
      refine Ol.gn rfl ?_
      refine Ol.gn rfl ?_
      refine Ol.gn rfl ?_
      refine Ol.gn rfl ?_
      refine Ol.gn rfl ?_
      refine Ol.p (pkFb rfl) ?_
      refine Ol.p asb ?_
      refine Ol.nil ?_
      refine Cd.ret ⟨.bool false, ret1 rfl rfl, [], Keep.nil, congrArg Value.bool ?_, rfl⟩
      exact (decide_eq_false fun e => of_decide_eq_false h1 (congrArg RIns.dst e : a.bare.dst = b.bare.dst)).symm
  | false =>
    refine Cd.region ?_
    refine Ol.p (fdl fd_api_Ins_0) ?_
    refine Ol.p (ld (v := .int .i64 a.op) one_api_Op (Rd.blk (i := 1) rfl rfl)) ?_
    refine Ol.p (fdl fd_api_Ins_0) ?_
    refine Ol.p (ld (v := .int .i64 b.op) one_api_Op (Rd.blk (i := 0) rfl rfl)) ?_
    refine Ol.p eqi ?_
    refine Ol.p mvb ?_
    refine Ol.gn h0 ?_
    refine Ol.gn h0 ?_
    refine Ol.gn h0 ?_
    refine Ol.gn h0 ?_
    refine Ol.gn h0 ?_
    refine Ol.p (pkFb h0) ?_
    refine Ol.p mvb ?_
    refine Ol.gn rfl ?_
    refine Ol.gn rfl ?_
    refine Ol.gn rfl ?_
    refine Ol.gn rfl ?_
    refine Ol.gn rfl ?_
    refine Ol.p (pkFb rfl) ?_
    refine Ol.p mvb ?_
    refine Ol.gn rfl ?_
    refine Ol.gn rfl ?_
    refine Ol.gn rfl ?_
    refine Ol.gn rfl ?_
    refine Ol.gn rfl ?_
    refine Ol.p (pkFb rfl) ?_
    refine Ol.p mvb ?_
    refine Ol.gn rfl ?_
    refine Ol.gn rfl ?_
    refine Ol.gn rfl ?_
    refine Ol.gn rfl ?_
    refine Ol.gn rfl ?_
    refine Ol.p (pkFb rfl) ?_
    refine Ol.p mvb ?_
    refine Ol.gn rfl ?_
    refine Ol.gn rfl ?_
    refine Ol.gn rfl ?_
    refine Ol.gn rfl ?_
    refine Ol.gn rfl ?_
    refine Ol.p (pkFb rfl) ?_
    refine Ol.p mvb ?_
    refine Ol.gn rfl ?_
    refine Ol.gn rfl ?_
    refine Ol.gn rfl ?_
    refine Ol.gn rfl ?_
    refine Ol.gn rfl ?_
    refine Ol.p (pkFb rfl) ?_
    refine Ol.p mvb ?_
    refine Ol.gn rfl ?_
    refine Ol.gn rfl ?_
    refine Ol.gn rfl ?_
    refine Ol.gn rfl ?_
    refine Ol.gn rfl ?_
    refine Ol.p (pkFb rfl) ?_
    refine Ol.p asb ?_
    refine Ol.nil ?_
    refine Cd.ret ⟨.bool false, ret1 rfl rfl, [], Keep.nil, congrArg Value.bool ?_, rfl⟩
    exact (decide_eq_false fun e => of_decide_eq_false h0 (congrArg RIns.op e : a.bare.op = b.bare.op)).symm
end
theorem bare_ne {α β : Type} {F : α → β} {a b : List α} {k : Nat} {x y : α} (ha : a[k]? = some x) (hb : b[k]? = some y) (h : F x ≠ F y) : a.map F ≠ b.map F := fun e => by
  have := congrArg (fun l : List β => l[k]?) e
  simp only [List.getElem?_map, ha, hb, Option.map_some] at this
  exact h (Option.some.inj this)
section
set_option maxHeartbeats 2000000 in
theorem kit_SameRow_ct {w : World} {A B : Option Addr} {c d : Nat} {a b : List RIns} (hra : Reads w w.heap.size 8 A a.length (a.flatMap RIns.cells)) (hrb : Reads w w.heap.size 8 B b.length (b.flatMap RIns.cells)) (haa : ∀ i ∈ a, Reads w w.heap.size 1 i.aA i.args.length (ints i.args)) (hba : ∀ i ∈ b, Reads w w.heap.size 1 i.aA i.args.length (ints i.args)) (hai : ∀ i ∈ a, i.args.length < 2 ^ 60) (hbi : ∀ i ∈ b, i.args.length < 2 ^ 60) (hal : a.length < 2 ^ 60) (hbl : b.length < 2 ^ 60) :
    Ct Try.prog 169 #[.slice A a.length c, .slice B b.length d] w (Is (.bool (decide (a.map RIns.bare = b.map RIns.bare)))) := by
  refine Ct.mk Try.func169 rfl rfl ?_
  refine Cd.seq ?_
  refine Cd.region ?_
  refine Ol.p asb ?_
  refine Ol.nil ?_
  refine Cd.seq ?_
  refine Cd.seq ?_
  refine Cd.region ?_
  refine Ol.p mvs ?_
  refine Ol.p (lens sl_L_api_Ins) ?_
  refine Ol.p mvs ?_
  refine Ol.p (lens sl_L_api_Ins) ?_
  refine Ol.p nei ?_
  refine Ol.nil ?_
  refine Cd.cond rfl (fun h => ?_) (fun h => ?_)   -- $10
  · have hne : a.map RIns.bare ≠ b.map RIns.bare := fun e => by
      have := congrArg List.length e
      simp at this
      rw [this] at h
      simp at h
    refine Cd.seq ?_
    refine Cd.region ?_
    refine Ol.p asb ?_
    refine Ol.nil ?_
    exact Cd.ret ⟨.bool false, ret1 rfl rfl, [], .nil, by rw [decide_eq_false hne], rfl⟩
  have hlen : a.length = b.length := by
    have : (a.length : Int) = (b.length : Int) := by simpa using h
    omega
  refine Cd.skip ?_
  refine Cd.seq ?_
  refine Cd.seq ?_
  refine Cd.region ?_
  refine Ol.p asi ?_
  refine Ol.nil ?_
  refine Cd.block ?_   -- 0
  refine Cd.loop (fun m σ L => ∃ k, m = a.length - k ∧ k ≤ a.length ∧ (a.take k).map RIns.bare = (b.take k).map RIns.bare ∧ Has σ [(0, .slice A a.length c), (1, .slice B b.length d), (5, .int .i64 k)] ∧ [] = L) (n := a.length) ⟨0, rfl, Nat.zero_le _, rfl, ⟨rfl, rfl, rfl, trivial⟩, rfl⟩ ?_
  rintro _ σ L ⟨k, rfl, hk, hsame, hs, rfl⟩
  refine Cd.has hs ?_
  refine Cd.seq ?_
  refine Cd.seq ?_
  refine Cd.region ?_
  refine Ol.p mvi ?_
  refine Ol.p mvs ?_
  refine Ol.p (lens sl_L_api_Ins) ?_
  refine Ol.p lsi ?_
  refine Ol.nil ?_
  refine Cd.cond rfl (fun h => ?_) (fun h => ?_)   -- $14
  · have hlt : k < a.length := by
      simp only [decide_eq_true_eq] at h; omega
    obtain ⟨x, hx⟩ : ∃ x, a[k]? = some x := ⟨_, List.getElem?_eq_getElem hlt⟩
    obtain ⟨y, hy⟩ : ∃ y, b[k]? = some y := ⟨_, List.getElem?_eq_getElem (by omega)⟩
    have hxm := List.mem_of_getElem? hx
    have hym := List.mem_of_getElem? hy
    refine Cd.skip ?_
    refine Cd.seq ?_
    refine Cd.block ?_   -- 1
    refine Cd.seq ?_
    refine Cd.draw mixed 10 (exIs (fun opNo => match opNo with | 8 => some (.bool (decide (x.bare = y.bare))) | _ => none)) (fun _ => []) (by kernel_rfl) exIs_in (fun u hu => ?_)
    refine Wk.p mvs ?_
    refine Wk.p mvi ?_
    refine Wk.p (ixn (ix := k) sl_L_api_Ins (Som.slc hra (by omega))) ?_
    refine Wk.p (lds (es := x.cells) ag_api_Ins hra x.len (fun j u hu => ins_cell hx hu)) ?_
    refine Wk.p mvs ?_
    refine Wk.p mvi ?_
    refine Wk.p (ixn (ix := k) sl_L_api_Ins (Som.slc hrb (by omega))) ?_
    refine Wk.p (lds (es := y.cells) ag_api_Ins hrb y.len (fun j u hu => ins_cell hy hu)) ?_
    refine Wk.dk hu (sp_call en_kit_SameIns (fun M w' hh => kit_SameIns_ct ((haa x hxm).now hh) ((hba y hym).now hh) (hai x hxm) (hbi y hym))) ?_
    refine Wk.p noti ?_
    refine Wk.nil ?_
    rw [needs_exIs hu rfl]
    refine Ol.nil ?_
    refine Cd.cond rfl (fun h => ?_) (fun h => ?_)   -- $26
    · have hne : x.bare ≠ y.bare := by simpa using h
      refine Cd.seq ?_
      refine Cd.region ?_
      refine Ol.p asb ?_
      refine Ol.nil ?_
      exact Cd.ret ⟨.bool false, ret1 rfl rfl, [], .nil, by rw [decide_eq_false (bare_ne hx hy hne)], rfl⟩
    have heq : x.bare = y.bare := by simpa using h
    refine Cd.skip ?_
    refine Cd.region ?_
    refine Ol.p mvi ?_
    refine Ol.p addi ?_
    refine Ol.p asi ?_
    refine Ol.nil ?_
    refine ⟨a.length - (k + 1), by omega, k + 1, rfl, by omega, ?_, ⟨rfl, rfl, rfl, trivial⟩, rfl⟩
    rw [take_snoc_ hx, take_snoc_ hy, List.map_append, List.map_append, hsame, List.map_singleton, List.map_singleton, heq]
  have hke : k = a.length := by
    simp only [decide_eq_false_iff_not] at h; omega
  have heq : a.map RIns.bare = b.map RIns.bare := by
    rw [hke, List.take_of_length_le (Nat.le_refl _), hlen, List.take_of_length_le (Nat.le_refl _)] at hsame
    exact hsame
  refine Cd.exit (id := 0) ?_
  refine Cd.seq ?_
  refine Cd.region ?_
  refine Ol.p asb ?_
  refine Ol.nil ?_
  exact Cd.ret ⟨.bool true, ret1 rfl rfl, [], .nil, by rw [decide_eq_true heq], rfl⟩
end
end Go.Proofs.Ytcojedoejpcolaa

/- Ends, compared: a struct with an array in it. -/
namespace Go.Proofs.Ytcojedoejpcolaa
set_option linter.unusedVariables false
open Go Go.RowKit
section
variable {P : Program} {w0 : World} {B : Nat} {σ : Env} {L : List Res} {d : Option Nat} {ty T : TypeId} {pos : String} {af : Array Edge} {gd : Option (Nat × Bool)} {x y z : Operand} {v : Value}
theorem run_eqFields_cons {dd : Nat} {xs ys : Array Value} {f : Field} {fs : List Field} {a b : Value} {r : Bool} {w : World} (hn : f.name ≠ "_") (p1 : (part f.type xs f.offset).run P w = .ok a w) (p2 : (part f.type ys f.offset).run P w = .ok b w) (h1 : (Op.equalIn dd f.type a b).run P w = .ok r w) :
    (Op.eqFields dd xs ys (f :: fs)).run P w = if r = true then (Op.eqFields dd xs ys fs).run P w else .ok false w := by
  simp only [Op.eqFields, hn, ne_eq, not_false_eq_true, if_true, Sem.run_bind, p1, p2, h1, Result.andThen_ok]
  cases r <;> simp
def itB (P : Program) (e : TypeId) : Bool := (match P.underlying e with | some (.int _) => true | _ => false) && decide ((P.info? e).map (·.size) = some 1)
theorem itB_prim {e : TypeId} (h : itB P e = true) : ∃ k, primT P e (.int k) := by
  unfold itB at h
  rw [Bool.and_eq_true, decide_eq_true_eq] at h
  obtain ⟨h1, h2⟩ := h
  split at h1
  · rename_i k hk
    exact ⟨k, hk, rfl, h2⟩
  · cases h1
theorem run_equalIn_arr {n dd : Nat} {e T : TypeId} {kd : TypeDesc} {xs ys : Array Value} {r : Bool} (hT : P.underlying T = some (.array n e)) (he : primT P e kd) (hx : xs.size = n) (hy : ys.size = n) (h : ∀ (i : Nat) a b, xs[i]? = some a → ys[i]? = some b → Tell kd a b) (hr : r = true ↔ xs = ys) (w : World) : (Op.equalIn (dd + 2) T (.agg xs) (.agg ys)).run P w = .ok r w := by
  obtain ⟨i, hi, hs⟩ := info_of he.2.2
  have hc : P.cellsOf e = 1 := by simp [Program.cellsOf, hi, hs]
  have := run_equalIn_array (P := P) w (dd + 1) xs ys hT hi
  rw [hc, run_eqItems_prim (dd := dd) he w (List.range n) (fun i hi => by
    have hi : i < n := by simpa using hi
    exact ⟨xs[i], ys[i], Array.getElem?_eq_getElem _, Array.getElem?_eq_getElem _, h i _ _ (Array.getElem?_eq_getElem (by omega)) (Array.getElem?_eq_getElem (by omega))⟩) r (by
    rw [hr]
    constructor
    · rintro rfl i _; rfl
    · intro h
      apply Array.ext_getElem?
      intro i
      by_cases hi : i < n
      · exact h i (by simpa using hi)
      · rw [Array.getElem?_eq_none (by omega), Array.getElem?_eq_none (by omega)])] at this
  exact this
/-- A struct of two numbers and of two in an array. -/
def stT (P : Program) (T : TypeId) : Bool := match P.underlying T with
  | some (.struct fs) => (match fs.toList with
    | [f, g, h] => decide (f.name ≠ "_") && decide (g.name ≠ "_") && decide (h.name ≠ "_") && decide (f.offset = 0) && decide (g.offset = 1) && decide (h.offset = 2) && itB P f.type && itB P g.type && (match P.underlying h.type with | some (.array n e) => decide (n = 2) && itB P e && decide ((P.info? h.type).map (·.size) = some 2) | _ => false)
    | _ => false) && !P.stoodInHeld T && !P.eqGuardType P.depth T
  | _ => false
theorem run_equal_tm (hT : stT P T = true) (s t : Tm) (w : World) : (Op.equal T s.val t.val).run P w = .ok (decide (s = t)) w ∧ P.eqGuardType P.depth T = false := by
  unfold stT at hT
  split at hT
  · rename_i fs hu
    simp only [Bool.and_eq_true, Bool.not_eq_true'] at hT
    obtain ⟨⟨hT, h3⟩, h4⟩ := hT
    refine ⟨?_, h4⟩
    split at hT
    · rename_i f g h hfs
      simp only [Bool.and_eq_true, decide_eq_true_eq] at hT
      obtain ⟨⟨⟨⟨⟨⟨⟨⟨n1, n2⟩, n3⟩, o1⟩, o2⟩, o3⟩, i1⟩, i2⟩, hA⟩ := hT
      split at hA
      · rename_i n e hua
        simp only [Bool.and_eq_true, decide_eq_true_eq] at hA
        obtain ⟨⟨rfl, i3⟩, hsz⟩ := hA
        obtain ⟨ia, hia, hsa⟩ := info_of hsz
        obtain ⟨k1, p1⟩ := itB_prim i1
        obtain ⟨k2, p2⟩ := itB_prim i2
        obtain ⟨k3, p3⟩ := itB_prim i3
        have hf : P.fieldsOf T = fs := by simp [Program.fieldsOf, hu]
        have := run_equalIn_struct (P := P) w 9999 T s.cells.toArray t.cells.toArray (by rw [hf]; exact hu) h3
        have e : (Op.equal T s.val t.val).run P w = (Op.equalIn (9999 + 1) T (.agg s.cells.toArray) (.agg t.cells.toArray)).run P w := rfl
        rw [e, this, hf, hfs]
        have pa : ∀ u : Tm, (part h.type u.cells.toArray h.offset).run P w = .ok (.agg #[.int .i64 u.t0, .int .i64 u.t1]) w := fun u => by
          rw [o3]
          simp [part, isAgg, run_underlying hua, run_sizeOf w hia, hsa, Tm.cells, Program.cellsOf, hia]
        rw [run_eqFields_cons (r := decide (s.kind = t.kind)) n1 (run_part_one p1.one (v := .int .i64 s.kind) (by rw [o1]; rfl) w) (run_part_one p1.one (v := .int .i64 t.kind) (by rw [o1]; rfl) w) (run_eq_prim (dd := 9998) p1.1 (by simp [Instr.sameNow]; rfl) w)]
        rw [run_eqFields_cons (r := decide (s.a = t.a)) n2 (run_part_one p2.one (v := .int .i64 s.a) (by rw [o2]; rfl) w) (run_part_one p2.one (v := .int .i64 t.a) (by rw [o2]; rfl) w) (run_eq_prim (dd := 9998) p2.1 (by simp [Instr.sameNow]; rfl) w)]
        rw [run_eqFields_cons (r := decide (s.t0 = t.t0 ∧ s.t1 = t.t1)) n3 (pa s) (pa t) (run_equalIn_arr (dd := 9997) hua p3 rfl rfl (fun i a b ha hb => by
          match i, ha, hb with
          | 0, ha, hb => cases ha; cases hb; exact Tell.int
          | 1, ha, hb => cases ha; cases hb; exact Tell.int
          | i + 2, ha, _ => simp at ha) (by simp) w)]
        have e0 : (Op.eqFields 9999 s.cells.toArray t.cells.toArray []).run P w = .ok true w := by simp [Op.eqFields]
        rw [e0]
        obtain ⟨s1, s2, s3, s4⟩ := s
        obtain ⟨t1, t2, t3, t4⟩ := t
        simp only [Tm.mk.injEq, decide_eq_true_eq]
        by_cases q1 : s1 = t1
        · by_cases q2 : s2 = t2
          · by_cases q3 : s3 = t3 ∧ s4 = t4
            · simp [q1, q2, q3]
            · simp [q1, q2, q3]
          · simp [q1, q2]
        · simp [q1]
      · cases hA
    · cases hT
  · cases hT
theorem eqT {u : TypeId} {s t : Tm} (hT : stT P T = true) (hx : ev σ x = s.val := by exact rfl) (hy : ev σ y = t.val := by exact rfl) :
    Sd P w0 B ⟨d, .binOp .eql T x y u, ty, pos, af, gd⟩ σ L (.bool (decide (s = t))) := sp_val fun w => by
  obtain ⟨h1, h2⟩ := run_equal_tm hT s t w
  have h2' : ∀ a b : Array Value, (eqGuard .eql T x y (.agg a) (.agg b)).run P w = .ok () w := fun a b => eqGuard_agg h2
  simp only [execOp, hx, hy, binOp, Tm.val] at h1 ⊢
  simp [h2', h1]
end
theorem st_api_Term : stT Try.prog 29 = true := by kernel_rfl
end Go.Proofs.Ytcojedoejpcolaa

/- The kit: whole functions are compared, walked. -/
namespace Go.Proofs.Ytcojedoejpcolaa
set_option linter.unusedVariables false
open Go Go.RowKit
set_option maxRecDepth 100000

/-- Where a block's lists lie. -/
structure BlkR (w : World) (B : Nat) (x : RBlk) : Prop where
  ins : Reads w B 8 x.iA x.ins.length (x.ins.flatMap RIns.cells)
  args : ∀ i ∈ x.ins, Reads w B 1 i.aA i.args.length (ints i.args)
  alen : ∀ i ∈ x.ins, i.args.length < 2 ^ 60
  ilen : x.ins.length < 2 ^ 60
theorem BlkR.now {w0 w : World} {B : Nat} {L : List Res} {x : RBlk} (h : BlkR w0 B x) (hh : Hp w0 B L w) : BlkR w w.heap.size x := ⟨h.ins.now hh, fun i hi => (h.args i hi).now hh, h.alen, h.ilen⟩
section
set_option maxHeartbeats 1000000 in
theorem kit_SameBlock_ct {w : World} {a b : RBlk} (ha : BlkR w w.heap.size a) (hb : BlkR w w.heap.size b) : Ct Try.prog 139 #[a.val, b.val] w (Is (.bool (decide (a.bare = b.bare)))) := by
  refine Ct.mk Try.func139 rfl rfl ?_
  refine Cd.seq ?_
  refine Cd.region ?_
  refine Ol.x bxg ?_
  rintro _ _ ⟨g2, rfl, rfl⟩
  refine Ol.x bxg ?_
  rintro _ _ ⟨g3, rfl, rfl⟩
  refine Ol.p asb ?_
  refine Ol.nil ?_
  refine Cd.seq ?_
  cases h0 : decide (a.ins.map RIns.bare = b.ins.map RIns.bare) with
  | true =>
    refine Cd.region ?_
    refine Ol.p (fdl fd_api_Block_0) ?_
    refine Ol.p (ld (v := .slice a.iA a.ins.length a.iC) one_L_api_Ins (Rd.blk (i := 1) rfl rfl)) ?_
    refine Ol.p (fdl fd_api_Block_0) ?_
    refine Ol.p (ld (v := .slice b.iA b.ins.length b.iC) one_L_api_Ins (Rd.blk (i := 0) rfl rfl)) ?_
    refine Ol.s (cl en_kit_SameRow (fun M w' hh => kit_SameRow_ct (ha.ins.now hh) (hb.ins.now hh) (fun i hi => (ha.args i hi).now hh) (fun i hi => (hb.args i hi).now hh) ha.alen hb.alen ha.ilen hb.ilen)) ?_
    refine Ol.p mvb ?_
    refine Ol.gp h0 (fdl fd_api_Block_1) ?_
    refine Ol.gp h0 (ldp (k := 0 + 1) (vs := a.term.cells.toArray) ag_api_Term (i := 1) rfl rfl (fun j u hu => by rw [Nat.zero_add, Nat.add_comm]; simpa [RBlk.cells] using hu)) ?_
    refine Ol.gp h0 (fdl fd_api_Block_1) ?_
    refine Ol.gp h0 (ldp (k := 0 + 1) (vs := b.term.cells.toArray) ag_api_Term (i := 0) rfl rfl (fun j u hu => by rw [Nat.zero_add, Nat.add_comm]; simpa [RBlk.cells] using hu)) ?_
    refine Ol.gp h0 (eqT (s := a.term) (t := b.term) st_api_Term) ?_
    refine Ol.p (pkTb h0) ?_
    refine Ol.p asb ?_
    refine Ol.nil ?_
    refine Cd.ret ⟨.bool _, ret1 rfl rfl, [], Keep.nil, congrArg Value.bool ?_, rfl⟩
    have q0 := of_decide_eq_true h0
    rw [decide_eq_decide]
    unfold RBlk.bare
    simp [q0]
  | false =>
    refine Cd.region ?_
    refine Ol.p (fdl fd_api_Block_0) ?_
    refine Ol.p (ld (v := .slice a.iA a.ins.length a.iC) one_L_api_Ins (Rd.blk (i := 1) rfl rfl)) ?_
    refine Ol.p (fdl fd_api_Block_0) ?_
    refine Ol.p (ld (v := .slice b.iA b.ins.length b.iC) one_L_api_Ins (Rd.blk (i := 0) rfl rfl)) ?_
    refine Ol.s (cl en_kit_SameRow (fun M w' hh => kit_SameRow_ct (ha.ins.now hh) (hb.ins.now hh) (fun i hi => (ha.args i hi).now hh) (fun i hi => (hb.args i hi).now hh) ha.alen hb.alen ha.ilen hb.ilen)) ?_
    refine Ol.p mvb ?_
    refine Ol.gn h0 ?_
    refine Ol.gn h0 ?_
    refine Ol.gn h0 ?_
    refine Ol.gn h0 ?_
    refine Ol.gn h0 ?_
    refine Ol.p (pkFb h0) ?_
    refine Ol.p asb ?_
    refine Ol.nil ?_
    refine Cd.ret ⟨.bool false, ret1 rfl rfl, [], Keep.nil, congrArg Value.bool ?_, rfl⟩
    exact (decide_eq_false fun e => of_decide_eq_false h0 (congrArg RBlk.ins e : a.bare.ins = b.bare.ins)).symm
end
section
set_option maxHeartbeats 2000000 in
theorem kit_SameBlocks_ct {w : World} {A B : Option Addr} {c d : Nat} {a b : List RBlk} (hra : Reads w w.heap.size 5 A a.length (a.flatMap RBlk.cells)) (hrb : Reads w w.heap.size 5 B b.length (b.flatMap RBlk.cells)) (haa : ∀ x ∈ a, BlkR w w.heap.size x) (hba : ∀ x ∈ b, BlkR w w.heap.size x) (hal : a.length < 2 ^ 60) (hbl : b.length < 2 ^ 60) :
    Ct Try.prog 103 #[.slice A a.length c, .slice B b.length d] w (Is (.bool (decide (a.map RBlk.bare = b.map RBlk.bare)))) := by
  refine Ct.mk Try.func103 rfl rfl ?_
  refine Cd.seq ?_
  refine Cd.region ?_
  refine Ol.p asb ?_
  refine Ol.nil ?_
  refine Cd.seq ?_
  refine Cd.seq ?_
  refine Cd.region ?_
  refine Ol.p mvs ?_
  refine Ol.p (lens sl_L_api_Block) ?_
  refine Ol.p mvs ?_
  refine Ol.p (lens sl_L_api_Block) ?_
  refine Ol.p nei ?_
  refine Ol.nil ?_
  refine Cd.cond rfl (fun h => ?_) (fun h => ?_)   -- $10
  · have hne : a.map RBlk.bare ≠ b.map RBlk.bare := fun e => by
      have := congrArg List.length e
      simp at this
      rw [this] at h
      simp at h
    refine Cd.seq ?_
    refine Cd.region ?_
    refine Ol.p asb ?_
    refine Ol.nil ?_
    exact Cd.ret ⟨.bool false, ret1 rfl rfl, [], .nil, by rw [decide_eq_false hne], rfl⟩
  have hlen : a.length = b.length := by
    have : (a.length : Int) = (b.length : Int) := by simpa using h
    omega
  refine Cd.skip ?_
  refine Cd.seq ?_
  refine Cd.seq ?_
  refine Cd.region ?_
  refine Ol.p asi ?_
  refine Ol.nil ?_
  refine Cd.block ?_   -- 0
  refine Cd.loop (fun m σ L => ∃ k, m = a.length - k ∧ k ≤ a.length ∧ (a.take k).map RBlk.bare = (b.take k).map RBlk.bare ∧ Has σ [(0, .slice A a.length c), (1, .slice B b.length d), (5, .int .i64 k)] ∧ [] = L) (n := a.length) ⟨0, rfl, Nat.zero_le _, rfl, ⟨rfl, rfl, rfl, trivial⟩, rfl⟩ ?_
  rintro _ σ L ⟨k, rfl, hk, hsame, hs, rfl⟩
  refine Cd.has hs ?_
  refine Cd.seq ?_
  refine Cd.seq ?_
  refine Cd.region ?_
  refine Ol.p mvi ?_
  refine Ol.p mvs ?_
  refine Ol.p (lens sl_L_api_Block) ?_
  refine Ol.p lsi ?_
  refine Ol.nil ?_
  refine Cd.cond rfl (fun h => ?_) (fun h => ?_)   -- $14
  · have hlt : k < a.length := by
      simp only [decide_eq_true_eq] at h; omega
    obtain ⟨x, hx⟩ : ∃ x, a[k]? = some x := ⟨_, List.getElem?_eq_getElem hlt⟩
    obtain ⟨y, hy⟩ : ∃ y, b[k]? = some y := ⟨_, List.getElem?_eq_getElem (by omega)⟩
    have hxm := List.mem_of_getElem? hx
    have hym := List.mem_of_getElem? hy
    refine Cd.skip ?_
    refine Cd.seq ?_
    refine Cd.block ?_   -- 1
    refine Cd.seq ?_
    refine Cd.draw mixed 10 (exIs (fun opNo => match opNo with | 8 => some (.bool (decide (x.bare = y.bare))) | _ => none)) (fun _ => []) (by kernel_rfl) exIs_in (fun u hu => ?_)
    refine Wk.p mvs ?_
    refine Wk.p mvi ?_
    refine Wk.p (ixn (ix := k) sl_L_api_Block (Som.slc hra (by omega))) ?_
    refine Wk.p (lds (es := x.cells) ag_api_Block hra x.len (fun j u hu => blk_cell hx hu)) ?_
    refine Wk.p mvs ?_
    refine Wk.p mvi ?_
    refine Wk.p (ixn (ix := k) sl_L_api_Block (Som.slc hrb (by omega))) ?_
    refine Wk.p (lds (es := y.cells) ag_api_Block hrb y.len (fun j u hu => blk_cell hy hu)) ?_
    refine Wk.dk hu (sp_call en_kit_SameBlock (fun M w' hh => kit_SameBlock_ct ((haa x hxm).now hh) ((hba y hym).now hh))) ?_
    refine Wk.p noti ?_
    refine Wk.nil ?_
    rw [needs_exIs hu rfl]
    refine Ol.nil ?_
    refine Cd.cond rfl (fun h => ?_) (fun h => ?_)   -- $26
    · have hne : x.bare ≠ y.bare := by simpa using h
      refine Cd.seq ?_
      refine Cd.region ?_
      refine Ol.p asb ?_
      refine Ol.nil ?_
      exact Cd.ret ⟨.bool false, ret1 rfl rfl, [], .nil, by rw [decide_eq_false (bare_ne hx hy hne)], rfl⟩
    have heq : x.bare = y.bare := by simpa using h
    refine Cd.skip ?_
    refine Cd.region ?_
    refine Ol.p mvi ?_
    refine Ol.p addi ?_
    refine Ol.p asi ?_
    refine Ol.nil ?_
    refine ⟨a.length - (k + 1), by omega, k + 1, rfl, by omega, ?_, ⟨rfl, rfl, rfl, trivial⟩, rfl⟩
    rw [take_snoc_ hx, take_snoc_ hy, List.map_append, List.map_append, hsame, List.map_singleton, List.map_singleton, heq]
  have hke : k = a.length := by
    simp only [decide_eq_false_iff_not] at h; omega
  have heq : a.map RBlk.bare = b.map RBlk.bare := by
    rw [hke, List.take_of_length_le (Nat.le_refl _), hlen, List.take_of_length_le (Nat.le_refl _)] at hsame
    exact hsame
  refine Cd.exit (id := 0) ?_
  refine Cd.seq ?_
  refine Cd.region ?_
  refine Ol.p asb ?_
  refine Ol.nil ?_
  exact Cd.ret ⟨.bool true, ret1 rfl rfl, [], .nil, by rw [decide_eq_true heq], rfl⟩
end
section
set_option maxHeartbeats 1000000 in
theorem kit_SameFunc_ct {w : World} {f g : RFun} (hf : FunAt w w.heap.size f) (hg : FunAt w w.heap.size g) (hff : FitC f) (hgf : FitC g) : Ct Try.prog 56 #[f.val, g.val] w (Is (.bool (decide (f.bare = g.bare)))) := by
  have hfp := hff.plen
  have hgp := hgf.plen
  have hfb := hff.blen
  have hgb := hgf.blen
  have hfr : ∀ x ∈ f.blocks, BlkR w w.heap.size x := fun x hx => ⟨hf.ins x hx, hf.args x hx, fun i hi => by have := hff.alen x hx i hi; omega, by have := hff.ilen x hx; omega⟩
  have hgr : ∀ x ∈ g.blocks, BlkR w w.heap.size x := fun x hx => ⟨hg.ins x hx, hg.args x hx, fun i hi => by have := hgf.alen x hx i hi; omega, by have := hgf.ilen x hx; omega⟩
  refine Ct.mk Try.func56 rfl rfl ?_
  refine Cd.seq ?_
  refine Cd.region ?_
  refine Ol.x bxg ?_
  rintro _ _ ⟨g2, rfl, rfl⟩
  refine Ol.x bxg ?_
  rintro _ _ ⟨g3, rfl, rfl⟩
  refine Ol.p asb ?_
  refine Ol.nil ?_
  refine Cd.seq ?_
  cases h0 : decide (f.params = g.params) with
  | true =>
    refine Cd.region ?_
    refine Ol.p (fdl fd_api_Func_0) ?_
    refine Ol.p (ld (v := .slice f.pA f.params.length f.pC) one_L_int (Rd.blk (i := 1) rfl rfl)) ?_
    refine Ol.p (fdl fd_api_Func_0) ?_
    refine Ol.p (ld (v := .slice g.pA g.params.length g.pC) one_L_int (Rd.blk (i := 0) rfl rfl)) ?_
    refine Ol.s (cl en_kit_SameInts (fun M w' hh => kit_SameInts_ct (hf.params.now hh) (hg.params.now hh) (by omega) (by omega))) ?_
    refine Ol.p mvb ?_
    refine Ol.gp h0 (fdl fd_api_Func_1) ?_
    refine Ol.gp h0 (ld (v := .slice f.bA f.blocks.length f.bC) one_L_api_Block (Rd.blk (i := 1) rfl rfl)) ?_
    refine Ol.gp h0 (fdl fd_api_Func_1) ?_
    refine Ol.gp h0 (ld (v := .slice g.bA g.blocks.length g.bC) one_L_api_Block (Rd.blk (i := 0) rfl rfl)) ?_
    refine Ol.gs h0 (cl en_kit_SameBlocks (fun M w' hh => kit_SameBlocks_ct (hf.blocks.now hh) (hg.blocks.now hh) (fun x hx => (hfr x hx).now hh) (fun x hx => (hgr x hx).now hh) (by omega) (by omega))) ?_
    refine Ol.p (pkTb h0) ?_
    refine Ol.p asb ?_
    refine Ol.nil ?_
    refine Cd.ret ⟨.bool _, ret1 rfl rfl, [], Keep.nil, congrArg Value.bool ?_, rfl⟩
    have q0 := of_decide_eq_true h0
    rw [decide_eq_decide]
    unfold RFun.bare
    simp [q0]
  | false =>
    refine Cd.region ?_
    refine Ol.p (fdl fd_api_Func_0) ?_
    refine Ol.p (ld (v := .slice f.pA f.params.length f.pC) one_L_int (Rd.blk (i := 1) rfl rfl)) ?_
    refine Ol.p (fdl fd_api_Func_0) ?_
    refine Ol.p (ld (v := .slice g.pA g.params.length g.pC) one_L_int (Rd.blk (i := 0) rfl rfl)) ?_
    refine Ol.s (cl en_kit_SameInts (fun M w' hh => kit_SameInts_ct (hf.params.now hh) (hg.params.now hh) (by omega) (by omega))) ?_
    refine Ol.p mvb ?_
    refine Ol.gn h0 ?_
    refine Ol.gn h0 ?_
    refine Ol.gn h0 ?_
    refine Ol.gn h0 ?_
    refine Ol.gn h0 ?_
    refine Ol.p (pkFb h0) ?_
    refine Ol.p asb ?_
    refine Ol.nil ?_
    refine Cd.ret ⟨.bool false, ret1 rfl rfl, [], Keep.nil, congrArg Value.bool ?_, rfl⟩
    exact (decide_eq_false fun e => of_decide_eq_false h0 (congrArg RFun.params e : f.bare.params = g.bare.params)).symm
end
end Go.Proofs.Ytcojedoejpcolaa

/- The kit: what is lent lies ahead of marks, and is looked at again, walked. -/
namespace Go.Proofs.Ytcojedoejpcolaa
set_option linter.unusedVariables false
set_option linter.unusedSimpArgs false
open Go Go.RowKit
set_option maxRecDepth 100000

theorem Cd.capl {C : Ctx} {k : Code} {Q : Exit → Env → List Res → Prop} {σ : Env} {L : List Res} {i n c e s : Nat} {A : Option Addr} {xs : List Value} (hi : L[i]? = some (row (.slice A n c) e s n xs)) (hc : n ≤ c → Cd C k Q σ L) : Cd C k Q σ L := fun a w ha hs =>
  hc (cap_row (hs.heap.at_ hi)) a w ha hs
def mkN (k i : Nat) : Int := ((1000003 * (k + 7) + i : Nat) : Int)
def MI (k i : Nat) : RIns := ⟨0, 0, 0, 0, mkN k i, 0, none, 0, [], 0⟩
def MB (k i : Nat) : RBlk := ⟨none, 0, [], ⟨0, mkN k i, 0, 0⟩⟩
/-- The marks behind a list. -/
def mkL (j : Nat) : List Int := (List.range j).map (mkN 1)
def mkIL (j : Nat) : List RIns := (List.range j).map (MI 1)
def mkBL (j : Nat) : List RBlk := (List.range j).map (MB 1)
theorem mkL_len (j : Nat) : (mkL j).length = j := by simp [mkL]
theorem mkIL_len (j : Nat) : (mkIL j).length = j := by simp [mkIL]
theorem mkBL_len (j : Nat) : (mkBL j).length = j := by simp [mkBL]
theorem mkL_succ (j : Nat) : mkL (j + 1) = mkL j ++ [mkN 1 j] := by simp [mkL, List.range_succ]
theorem mkIL_succ (j : Nat) : mkIL (j + 1) = mkIL j ++ [MI 1 j] := by simp [mkIL, List.range_succ]
theorem mkBL_succ (j : Nat) : mkBL (j + 1) = mkBL j ++ [MB 1 j] := by simp [mkBL, List.range_succ]
theorem mk_at {α : Type} {l : List α} {F : Nat → α} {j : Nat} (hj : j < 12) : (l ++ (List.range 12).map F)[l.length + j]? = some (F j) := by
  rw [List.getElem?_append_right (by omega), Nat.add_sub_cancel_left, List.getElem?_map, List.getElem?_range hj]
  rfl
theorem mk_old {α : Type} {l m : List α} {k : Nat} {x : α} (h : l[k]? = some x) : (l ++ m)[k]? = some x := by
  rw [List.getElem?_append_left (List.getElem?_eq_some_iff.1 h).1]; exact h
def lInt (A : Option Addr) (c : Nat) (l : List Int) : Res := row (.slice A (l.length + 12) c) 3 1 (l.length + 12) (ints (l ++ mkL 12))
def insLent (i : RIns) : Res := lInt i.aA i.aC i.args
def lIns (A : Option Addr) (c : Nat) (l : List RIns) : Res := row (.slice A (l.length + 12) c) 25 8 (l.length + 12) ((l ++ mkIL 12).flatMap RIns.cells)
def blkLent (b : RBlk) : List Res := lIns b.iA b.iC b.ins :: b.ins.map insLent
def lBlk (A : Option Addr) (c : Nat) (l : List RBlk) : Res := row (.slice A (l.length + 12) c) 50 5 (l.length + 12) ((l ++ mkBL 12).flatMap RBlk.cells)
def funLent (f : RFun) : List Res := lInt f.pA f.pC f.params :: lBlk f.bA f.bC f.blocks :: f.blocks.flatMap blkLent
theorem Reads.lentI {w : World} {B : Nat} {A : Option Addr} {l : List Int} (h : Reads w B 1 A (l.length + 12) (ints (l ++ mkL 12))) : Reads w B 1 A l.length (ints l) := by
  have := h.pre (k := l.length) (by omega)
  have e : (ints (l ++ mkL 12)).take (l.length * 1) = ints l := by
    unfold ints
    rw [List.map_append, Nat.mul_one]
    exact List.take_left' (by simp)
  rwa [e] at this
theorem Reads.lentN {w : World} {B : Nat} {A : Option Addr} {l : List RIns} (h : Reads w B 8 A (l.length + 12) ((l ++ mkIL 12).flatMap RIns.cells)) : Reads w B 8 A l.length (l.flatMap RIns.cells) := by
  have := h.pre (k := l.length) (by omega)
  have e : ((l ++ mkIL 12).flatMap RIns.cells).take (l.length * 8) = l.flatMap RIns.cells := by
    rw [List.flatMap_append]
    exact List.take_left' (flat_len RIns.len l)
  rwa [e] at this
theorem Reads.lentB {w : World} {B : Nat} {A : Option Addr} {l : List RBlk} (h : Reads w B 5 A (l.length + 12) ((l ++ mkBL 12).flatMap RBlk.cells)) : Reads w B 5 A l.length (l.flatMap RBlk.cells) := by
  have := h.pre (k := l.length) (by omega)
  have e : ((l ++ mkBL 12).flatMap RBlk.cells).take (l.length * 5) = l.flatMap RBlk.cells := by
    rw [List.flatMap_append]
    exact List.take_left' (flat_len RBlk.len l)
  rwa [e] at this
/-- Where what is lent lies. -/
structure BlkL (w : World) (B : Nat) (x : RBlk) : Prop where
  ins : Reads w B 8 x.iA (x.ins.length + 12) ((x.ins ++ mkIL 12).flatMap RIns.cells)
  ic : x.ins.length + 12 ≤ x.iC
  args : ∀ i ∈ x.ins, Reads w B 1 i.aA (i.args.length + 12) (ints (i.args ++ mkL 12))
  ac : ∀ i ∈ x.ins, i.args.length + 12 ≤ i.aC
theorem BlkL.now {w0 w : World} {B : Nat} {L : List Res} {x : RBlk} (h : BlkL w0 B x) (hh : Hp w0 B L w) : BlkL w w.heap.size x := ⟨h.ins.now hh, h.ic, fun i hi => (h.args i hi).now hh, h.ac⟩
structure LentAt (w : World) (B : Nat) (g : RFun) : Prop where
  params : Reads w B 1 g.pA (g.params.length + 12) (ints (g.params ++ mkL 12))
  pc : g.params.length + 12 ≤ g.pC
  blocks : Reads w B 5 g.bA (g.blocks.length + 12) ((g.blocks ++ mkBL 12).flatMap RBlk.cells)
  bc : g.blocks.length + 12 ≤ g.bC
  blk : ∀ b ∈ g.blocks, BlkL w B b
theorem LentAt.now {w0 w : World} {B : Nat} {L : List Res} {g : RFun} (h : LentAt w0 B g) (hh : Hp w0 B L w) : LentAt w w.heap.size g := ⟨h.params.now hh, h.pc, h.blocks.now hh, h.bc, fun b hb => (h.blk b hb).now hh⟩
theorem LentAt.fun_ {w : World} {B : Nat} {g : RFun} (h : LentAt w B g) : FunAt w B g := ⟨h.params.lentI, h.blocks.lentB, fun b hb => (h.blk b hb).ins.lentN, fun b hb i hi => ((h.blk b hb).args i hi).lentI⟩
theorem LentAt.fit {w : World} {B : Nat} {g : RFun} (h : LentAt w B g) (hc : FitC g) : Fit g := ⟨hc.params, hc.plen, hc.blen, by have := h.pc; omega, by have := h.bc; omega, hc.ilen, fun b hb => by have := (h.blk b hb).ic; omega, hc.term, hc.insr, hc.alen, fun b hb i hi => by have := (h.blk b hb).ac i hi; omega, hc.argr⟩
theorem mem_blkLent {f : RFun} {b : RBlk} {r : Res} (hb : b ∈ f.blocks) (hr : r ∈ blkLent b) : r ∈ funLent f := by
  unfold funLent
  exact List.mem_cons_of_mem _ (List.mem_cons_of_mem _ (List.mem_flatMap.2 ⟨b, hb, hr⟩))
theorem LentAt.own {w0 w : World} {B : Nat} {M L : List Res} {g : RFun} (hh : Hp w0 B (M ++ L) w) (hs : ∀ r ∈ funLent g, r ∈ L) : LentAt w w.heap.size g := by
  have key : ∀ {A : Option Addr} {n c e s : Nat} {xs : List Value}, row (.slice A n c) e s n xs ∈ funLent g → Reads w w.heap.size s A n xs := fun hm => by
    obtain ⟨i, hi⟩ := List.mem_iff_getElem?.1 (hs _ hm)
    exact Reads.row hh hi
  have cap : ∀ {A : Option Addr} {n c e s : Nat} {xs : List Value}, row (.slice A n c) e s n xs ∈ funLent g → n ≤ c := fun hm => cap_row (hh.has _ (List.mem_append_right _ (hs _ hm)))
  have h1 : lInt g.pA g.pC g.params ∈ funLent g := List.mem_cons_self ..
  have h2 : lBlk g.bA g.bC g.blocks ∈ funLent g := List.mem_cons_of_mem _ (List.mem_cons_self ..)
  refine ⟨key h1, cap h1, key h2, cap h2, fun b hb => ?_⟩
  have h3 : lIns b.iA b.iC b.ins ∈ funLent g := mem_blkLent hb (List.mem_cons_self ..)
  have h4 : ∀ i ∈ b.ins, insLent i ∈ funLent g := fun i hi => mem_blkLent hb (List.mem_cons_of_mem _ (List.mem_map_of_mem hi))
  exact ⟨key h3, cap h3, fun i hi => key (h4 i hi), fun i hi => cap (h4 i hi)⟩
theorem reads_none_ {w : World} {B s : Nat} : Reads w B s none 0 [] := ⟨by simp, fun h => absurd h (by omega)⟩
section
theorem kit_mark_ct {w : World} {k i : Nat} (hk : k < 100000) (hi : i < 2 ^ 40) : Ct Try.prog 63 #[.int .i64 (k : Int), .int .i64 (i : Int)] w (Is (.int .i64 (mkN k i))) := by
  refine Ct.mk Try.func63 rfl rfl ?_
  refine Cd.seq ?_
  refine Cd.region ?_
  refine Ol.p asi ?_
  refine Ol.nil ?_
  refine Cd.seq ?_
  refine Cd.region ?_
  refine Ol.p mvi ?_
  refine Ol.p addi ?_
  refine Ol.p muli ?_
  refine Ol.p mvi ?_
  refine Ol.p addi ?_
  refine Ol.p asi ?_
  refine Ol.nil ?_
  exact Cd.ret ⟨.int .i64 _, ret1 rfl rfl, [], Keep.nil, congrArg (Value.int .i64) (by unfold mkN; omega), rfl⟩
end
section
theorem kit_markIns_ct {w : World} {k i : Nat} (hk : k < 100000) (hi : i < 2 ^ 40) : Ct Try.prog 150 #[.int .i64 (k : Int), .int .i64 (i : Int)] w (Is (MI k i).val) := by
  refine Ct.mk Try.func150 rfl rfl ?_
  refine Cd.seq ?_
  refine Cd.region ?_
  refine Ol.x (alc zr_api_Ins) ?_
  rintro _ _ ⟨g4, rfl, rfl⟩
  refine Ol.nil ?_
  refine Cd.seq ?_
  refine Cd.region ?_
  refine Ol.p mvi ?_
  refine Ol.p mvi ?_
  refine Ol.s (cl en_kit_mark (fun M w' hh => kit_mark_ct hk hi)) ?_
  refine Ol.p (bds (cs := (MI k i).cells.toArray) bs_api_Ins zr_api_Ins (hf := by kernel_rfl)) ?_
  refine Ol.s (stw (vs := (MI k i).cells.toArray) sz_api_Ins rfl (MI k i).one (i := 0) rfl rfl) ?_
  refine Ol.nil ?_
  exact Cd.ret ⟨_, retc rfl ag_api_Ins rfl (i := 0) rfl rfl, [], Keep.nil, rfl, rfl⟩
end
section
theorem kit_markBlock_ct {w : World} {k i : Nat} (hk : k < 100000) (hi : i < 2 ^ 40) : Ct Try.prog 137 #[.int .i64 (k : Int), .int .i64 (i : Int)] w (Is (MB k i).val) := by
  refine Ct.mk Try.func137 rfl rfl ?_
  refine Cd.seq ?_
  refine Cd.region ?_
  refine Ol.x (alc zr_api_Block) ?_
  rintro _ _ ⟨g4, rfl, rfl⟩
  refine Ol.nil ?_
  refine Cd.seq ?_
  refine Cd.region ?_
  refine Ol.p mvi ?_
  refine Ol.p mvi ?_
  refine Ol.s (cl en_kit_mark (fun M w' hh => kit_mark_ct hk hi)) ?_
  refine Ol.p (bds (cs := #[.int .i64 0, .int .i64 (mkN k i), .int .i64 0, .int .i64 0]) bs_api_Term zr_api_Term (hf := by kernel_rfl)) ?_
  refine Ol.p (bds (cs := (MB k i).cells.toArray) bs_api_Block zr_api_Block (hf := by kernel_rfl)) ?_
  refine Ol.s (stw (vs := (MB k i).cells.toArray) sz_api_Block rfl (MB k i).one (i := 0) rfl rfl) ?_
  refine Ol.nil ?_
  exact Cd.ret ⟨_, retc rfl ag_api_Block rfl (i := 0) rfl rfl, [], Keep.nil, rfl, rfl⟩
end
section
set_option maxHeartbeats 1000000 in
theorem kit_LentInts_ct {w : World} {A : Option Addr} {c : Nat} {l : List Int} (hl : Reads w w.heap.size 1 A l.length (ints l)) (hlen : l.length < 2 ^ 40) : Ct Try.prog 13 #[.slice A l.length c] w (fun v R => ∃ A' c', v = .slice A' l.length c' ∧ R = [lInt A' c' l]) := by
  refine Ct.mk Try.func13 rfl rfl ?_
  refine Cd.seq ?_
  refine Cd.region ?_
  refine Ol.p ass ?_
  refine Ol.nil ?_
  refine Cd.seq ?_
  refine Cd.region ?_
  refine Ol.p mvs ?_
  refine Ol.p (lens sl_L_int) ?_
  refine Ol.p addi ?_
  refine Ol.x (mks (n := 0) (c := l.length + 12) sl_L_int zr_int (hy := congrArg (Value.int .i64) (show (l.length : Int) + 12 = ((l.length + 12 : Nat) : Int) by omega))) ?_
  rintro _ _ ⟨gm, rfl, rfl⟩
  refine Ol.p ass ?_
  refine Ol.nil ?_
  rw [Nat.zero_mul, List.take_zero]
  refine Cd.seq ?_
  refine Cd.region ?_
  refine Ol.p mvs ?_
  refine Ol.p mvs ?_
  refine Ol.x (apn (i := 0) (n := 0) (xs := []) (m := l.length) sl_L_int zr_int rfl (by decide) rfl (Src.slc hl) (one_ints l) (by unfold maxLen; omega) (by omega)) ?_
  rintro _ _ ⟨A1, c1, rfl, rfl⟩
  refine Ol.p ass ?_
  refine Ol.nil ?_
  rw [Nat.zero_add, List.nil_append]
  refine Cd.seq ?_
  refine Cd.seq ?_
  refine Cd.region ?_
  refine Ol.p asi ?_
  refine Ol.nil ?_
  refine Cd.block ?_
  refine Cd.loop (fun m σ L => ∃ (j : Nat) (A' : Option Addr) (c' : Nat), m = 12 - j ∧ j ≤ 12 ∧ Has σ [(0, .slice A l.length c), (3, .slice A' (l.length + j) c'), (4, .int .i64 j)] ∧ [row (.slice A' (l.length + j) c') 3 1 (l.length + j) (ints (l ++ mkL j))] = L) (n := 12) ⟨0, A1, c1, rfl, Nat.zero_le _, ⟨rfl, rfl, rfl, trivial⟩, by rw [show mkL 0 = [] from rfl, List.append_nil]; rfl⟩ ?_
  rintro _ σ L ⟨j, A', c', rfl, hj, hs, rfl⟩
  refine Cd.has hs ?_
  clear hs
  refine Cd.seq ?_
  refine Cd.seq ?_
  refine Cd.region ?_
  refine Ol.p mvi ?_
  refine Ol.p lsi ?_
  refine Ol.nil ?_
  refine Cd.cond rfl (fun h => ?_) (fun h => ?_)
  · have hlt : j < 12 := by
      have h : decide ((j : Int) < 12) = true := h
      have := of_decide_eq_true h
      omega
    refine Cd.skip ?_
    refine Cd.seq ?_
    refine Cd.block ?_
    refine Cd.region ?_
    refine Ol.p mvs ?_
    refine Ol.p mvi ?_
    refine Ol.s (cl (v := .int .i64 (mkN 1 j)) en_kit_mark (fun M w' hh => kit_mark_ct (k := 1) (by decide) (by omega))) ?_
    refine Ol.x (bsv [.int .i64 (mkN 1 j)] sl_L_int zr_int (by simp [Value.cells])) ?_
    rintro _ _ ⟨g19, rfl, rfl⟩
    refine Ol.x (apn (i := 1) (m := 1) sl_L_int zr_int rfl (by decide) rfl (Src.row (i := 0) rfl rfl) (by intro u hu; simp at hu; subst hu; rfl) (by unfold maxLen; omega) (by omega)) ?_
    rintro _ _ ⟨A2, c2, rfl, rfl⟩
    refine Ol.p ass ?_
    refine Ol.keep (.sub (.cons _ (List.Sublist.refl _))) ?_
    refine Ol.nil ?_
    refine Cd.region ?_
    refine Ol.p mvi ?_
    refine Ol.p addi ?_
    refine Ol.p asi ?_
    refine Ol.nil ?_
    refine ⟨12 - (j + 1), by omega, j + 1, A2, c2, rfl, by omega, ⟨rfl, rfl, rfl, trivial⟩, ?_⟩
    rw [mkL_succ, ← List.append_assoc, show ints (l ++ mkL j ++ [mkN 1 j]) = ints (l ++ mkL j) ++ [.int .i64 (mkN 1 j)] by simp [ints]]
    rfl
  have hje : j = 12 := by
    have h : decide ((j : Int) < 12) = false := h
    have := of_decide_eq_false h
    omega
  subst hje
  refine Cd.exit (id := 0) ?_
  refine Cd.capl (i := 0) (A := A') (n := l.length + 12) (c := c') rfl fun hcap => ?_
  refine Cd.seq ?_
  refine Cd.region ?_
  refine Ol.p mvs ?_
  refine Ol.p mvs ?_
  refine Ol.p (lens sl_L_int) ?_
  refine Ol.p (slh (A := A') (n := l.length + 12) (c := c') (h := l.length) sl_L_int (by omega)) ?_
  refine Ol.p ass ?_
  refine Ol.nil ?_
  exact Cd.ret ⟨_, ret1 rfl rfl, _, .all, A', c', rfl, rfl⟩
end
section
theorem kit_LentIns_ct {w : World} {i : RIns} (hl : Reads w w.heap.size 1 i.aA i.args.length (ints i.args)) (hlen : i.args.length < 2 ^ 40) : Ct Try.prog 174 #[i.val] w (fun v R => ∃ A c, v = (i.at_ A c).val ∧ R = [insLent (i.at_ A c)]) := by
  refine Ct.mk Try.func174 rfl rfl ?_
  refine Cd.seq ?_
  refine Cd.region ?_
  refine Ol.x bxg ?_
  rintro _ _ ⟨g1, rfl, rfl⟩
  refine Ol.x (alc zr_api_Ins) ?_
  rintro _ _ ⟨g2, rfl, rfl⟩
  refine Ol.nil ?_
  refine Cd.seq ?_
  refine Cd.region ?_
  refine Ol.p (fdl fd_api_Ins_6) ?_
  refine Ol.p (ld (v := .slice i.aA i.args.length i.aC) one_L_int (Rd.blk (i := 1) rfl rfl)) ?_
  refine Ol.x (sp_call en_kit_LentInts (fun M w' hh => kit_LentInts_ct (l := i.args) (hl.now hh) hlen)) ?_
  rintro _ _ ⟨_, rfl, A', c', rfl, rfl⟩
  refine Ol.p (fdl fd_api_Ins_6) ?_
  refine Ol.s (sto (v := .slice A' i.args.length c') (i := 2) (k := 0 + 6) (.inr sz_L_int) rfl rfl rfl (by simp [RIns.cells]) rfl) ?_
  refine Ol.nil ?_
  refine Cd.seq ?_
  refine Cd.region ?_
  refine Ol.p (ldw (cs := (i.at_ A' c').cells.toArray) ag_api_Ins (i := 2) rfl rfl) ?_
  refine Ol.s (stw (vs := (i.at_ A' c').cells.toArray) sz_api_Ins rfl (i.at_ A' c').one (i := 1) rfl rfl) ?_
  refine Ol.nil ?_
  exact Cd.ret ⟨_, retc rfl ag_api_Ins rfl (i := 1) rfl rfl, _, .sub (.cons_cons _ (.cons _ (.cons _ .slnil))), A', c', rfl, rfl⟩
end
section
def NewIlL (l : List RIns) : Value → List Res → Prop := fun v R => ∃ (l' : List RIns) (A : Option Addr) (c : Nat) (X : List Res), l'.map RIns.bare = l.map RIns.bare ∧ v = .slice A l'.length c ∧ X.Perm (l'.map insLent) ∧ R = lIns A c l' :: X
set_option maxHeartbeats 2000000 in
theorem kit_LentRow_ct {w : World} {A : Option Addr} {c : Nat} {l : List RIns} (hl : Reads w w.heap.size 8 A l.length (l.flatMap RIns.cells)) (ha : ∀ i ∈ l, Reads w w.heap.size 1 i.aA i.args.length (ints i.args)) (hlen : l.length < 2 ^ 36) (hal : ∀ i ∈ l, i.args.length < 2 ^ 40) : Ct Try.prog 167 #[.slice A l.length c] w (NewIlL l) := by
  refine Ct.mk Try.func167 rfl rfl ?_
  refine Cd.seq ?_
  refine Cd.region ?_
  refine Ol.p ass ?_
  refine Ol.nil ?_
  refine Cd.seq ?_
  refine Cd.region ?_
  refine Ol.p mvs ?_
  refine Ol.p (lens sl_L_api_Ins) ?_
  refine Ol.p addi ?_
  refine Ol.x (mks (n := 0) (c := l.length + 12) sl_L_api_Ins zr_api_Ins (hy := congrArg (Value.int .i64) (show (l.length : Int) + 12 = ((l.length + 12 : Nat) : Int) by omega))) ?_
  rintro _ _ ⟨gm, rfl, rfl⟩
  refine Ol.p ass ?_
  refine Ol.nil ?_
  rw [Nat.zero_mul, List.take_zero]
  refine Cd.mid (fun σ' L' => ∃ (l' : List RIns) (A' : Option Addr) (c' : Nat) (X : List Res), l'.map RIns.bare = l.map RIns.bare ∧ l'.length = l.length ∧ X.Perm (l'.map insLent) ∧ Has σ' [(0, .slice A l.length c), (3, .slice A' l'.length c')] ∧ row (.slice A' l'.length c') 25 8 l'.length (l'.flatMap RIns.cells) :: X = L') ?_ ?_
  · refine Cd.seq ?_
    refine Cd.region ?_
    refine Ol.p asi ?_
    refine Ol.nil ?_
    refine Cd.block ?_
    refine Cd.loop (fun m σ L => ∃ (k : Nat) (l' : List RIns) (A' : Option Addr) (c' : Nat) (X : List Res), m = l.length - k ∧ k ≤ l.length ∧ l'.map RIns.bare = (l.take k).map RIns.bare ∧ X.Perm (l'.map insLent) ∧ Has σ [(0, .slice A l.length c), (3, .slice A' l'.length c'), (4, .int .i64 k)] ∧ row (.slice A' l'.length c') 25 8 l'.length (l'.flatMap RIns.cells) :: X = L) (n := l.length) ⟨0, [], some ⟨gm, 0, none⟩, l.length + 12, [], rfl, Nat.zero_le _, rfl, .refl _, ⟨rfl, rfl, rfl, trivial⟩, rfl⟩ ?_
    rintro _ σ L ⟨k, l', A', c', X, rfl, hk, hbare, hX, hs, rfl⟩
    have hkl : l'.length = k := by
      have := congrArg List.length hbare
      simp at this; omega
    refine Cd.has hs ?_
    clear hs
    refine Cd.seq ?_
    refine Cd.seq ?_
    refine Cd.region ?_
    refine Ol.p mvi ?_
    refine Ol.p mvs ?_
    refine Ol.p (lens sl_L_api_Ins) ?_
    refine Ol.p lsi ?_
    refine Ol.nil ?_
    refine Cd.cond rfl (fun h => ?_) (fun h => ?_)
    · have hlt : k < l.length := by
        simp only [decide_eq_true_eq] at h; omega
      obtain ⟨i, hi⟩ : ∃ i, l[k]? = some i := ⟨_, List.getElem?_eq_getElem hlt⟩
      have him := List.mem_of_getElem? hi
      have hial := hal i him
      refine Cd.skip ?_
      refine Cd.seq ?_
      refine Cd.block ?_
      refine Cd.seq ?_
      refine Cd.region ?_
      refine Ol.p mvs ?_
      refine Ol.p mvi ?_
      refine Ol.p (ixn (ix := k) sl_L_api_Ins (Som.slc hl (by omega))) ?_
      refine Ol.p (lds (es := i.cells) ag_api_Ins hl i.len (fun j u hu => ins_cell hi hu)) ?_
      refine Ol.x (sp_call en_kit_LentIns (fun M w' hh => kit_LentIns_ct ((ha i him).now hh) hial)) ?_
      rintro _ _ ⟨_, rfl, Ai, ci, rfl, rfl⟩
      refine Ol.x (alc zr_api_Ins) ?_
      rintro _ _ ⟨g5, rfl, rfl⟩
      refine Ol.s (stw (vs := (i.at_ Ai ci).cells.toArray) sz_api_Ins rfl (i.at_ Ai ci).one (i := 0) rfl rfl) ?_
      refine Ol.nil ?_
      refine Cd.region ?_
      refine Ol.p mvs ?_
      refine Ol.p (ldw (cs := (i.at_ Ai ci).cells.toArray) ag_api_Ins (i := 0) rfl rfl) ?_
      refine Ol.x (bs1 (cs := (i.at_ Ai ci).cells) sl_L_api_Ins zr_api_Ins rfl rfl) ?_
      rintro _ _ ⟨g19, rfl, rfl⟩
      refine Ol.x (apn (i := 3) (m := 1) sl_L_api_Ins zr_api_Ins rfl (by decide) rfl (Src.row (i := 0) rfl rfl) (i.at_ Ai ci).one (by unfold maxLen; omega) (by omega)) ?_
      rintro _ _ ⟨A2, c2, rfl, rfl⟩
      refine Ol.p ass ?_
      refine Ol.keep (keep_count (L' := row (.slice A2 (l'.length + 1) c2) 25 8 (l'.length + 1) (l'.flatMap RIns.cells ++ (i.at_ Ai ci).cells) :: insLent (i.at_ Ai ci) :: X) [row (.slice (some ⟨g19, 0, none⟩) 1 1) 25 8 1 (i.at_ Ai ci).cells, blk g5 (.cells (i.at_ Ai ci).cells.toArray 25)] fun _ x => by simp only [List.set_cons_succ, List.set_cons_zero, List.count_append, List.count_cons, List.count_nil, List.cons_append, List.nil_append]; omega) ?_
      refine Ol.nil ?_
      refine Cd.region ?_
      refine Ol.p mvi ?_
      refine Ol.p addi ?_
      refine Ol.p asi ?_
      refine Ol.nil ?_
      have e1 : l'.length + 1 = (l' ++ [i.at_ Ai ci]).length := by simp
      have e2 : l'.flatMap RIns.cells ++ (i.at_ Ai ci).cells = (l' ++ [i.at_ Ai ci]).flatMap RIns.cells := by simp
      rw [e1, e2]
      refine ⟨l.length - (k + 1), by omega, k + 1, l' ++ [i.at_ Ai ci], A2, c2, insLent (i.at_ Ai ci) :: X, rfl, by omega, ?_, ?_, ⟨rfl, rfl, rfl, trivial⟩, rfl⟩
      · rw [take_snoc_ hi, List.map_append, List.map_append, hbare]; rfl
      · rw [List.map_append]
        exact ((hX.cons _).trans (List.perm_append_singleton _ _).symm)
    have hke : k = l.length := by
      simp only [decide_eq_false_iff_not] at h; omega
    rw [hke, List.take_of_length_le (Nat.le_refl _)] at hbare
    refine Cd.exit (id := 0) ?_
    exact ⟨l', A', c', X, hbare, by omega, hX, ⟨rfl, rfl, trivial⟩, rfl⟩
  rintro σ' _ ⟨l', A', c', X, hbare, hll, hX, hs', rfl⟩
  refine Cd.has hs' ?_
  clear hs'
  refine Cd.seq ?_
  refine Cd.seq ?_
  refine Cd.region ?_
  refine Ol.p asi ?_
  refine Ol.nil ?_
  refine Cd.block ?_
  refine Cd.loop (fun m σ L => ∃ (j : Nat) (A' : Option Addr) (c' : Nat), m = 12 - j ∧ j ≤ 12 ∧ Has σ [(0, .slice A l.length c), (3, .slice A' (l'.length + j) c'), (6, .int .i64 j)] ∧ row (.slice A' (l'.length + j) c') 25 8 (l'.length + j) ((l' ++ mkIL j).flatMap RIns.cells) :: X = L) (n := 12) ⟨0, A', c', rfl, Nat.zero_le _, ⟨rfl, rfl, rfl, trivial⟩, by rw [show mkIL 0 = [] from rfl, List.append_nil]; rfl⟩ ?_
  rintro _ σ L ⟨j, A', c', rfl, hj, hs, rfl⟩
  refine Cd.has hs ?_
  clear hs
  refine Cd.seq ?_
  refine Cd.seq ?_
  refine Cd.region ?_
  refine Ol.p mvi ?_
  refine Ol.p lsi ?_
  refine Ol.nil ?_
  refine Cd.cond rfl (fun h => ?_) (fun h => ?_)
  · have hlt : j < 12 := by
      have h : decide ((j : Int) < 12) = true := h
      have := of_decide_eq_true h
      omega
    refine Cd.skip ?_
    refine Cd.seq ?_
    refine Cd.block ?_
    refine Cd.region ?_
    refine Ol.p mvs ?_
    refine Ol.p mvi ?_
    refine Ol.s (cl (v := (MI 1 j).val) en_kit_markIns (fun M w' hh => kit_markIns_ct (k := 1) (by decide) (by omega))) ?_
    refine Ol.x (bs1 (v := (MI 1 j).val) (cs := (MI 1 j).cells) sl_L_api_Ins zr_api_Ins rfl rfl) ?_
    rintro _ _ ⟨g33, rfl, rfl⟩
    refine Ol.x (apn (i := 1) (m := 1) sl_L_api_Ins zr_api_Ins rfl (by decide) rfl (Src.row (i := 0) rfl rfl) (MI 1 j).one (by unfold maxLen; omega) (by omega)) ?_
    rintro _ _ ⟨A2, c2, rfl, rfl⟩
    refine Ol.p ass ?_
    refine Ol.keep (.sub (.cons _ (List.Sublist.refl _))) ?_
    refine Ol.nil ?_
    refine Cd.region ?_
    refine Ol.p mvi ?_
    refine Ol.p addi ?_
    refine Ol.p asi ?_
    refine Ol.nil ?_
    refine ⟨12 - (j + 1), by omega, j + 1, A2, c2, rfl, by omega, ⟨rfl, rfl, rfl, trivial⟩, ?_⟩
    rw [mkIL_succ, ← List.append_assoc, List.flatMap_append (xs := l' ++ mkIL j), List.flatMap_singleton]
    rfl
  have hje : j = 12 := by
    have h : decide ((j : Int) < 12) = false := h
    have := of_decide_eq_false h
    omega
  subst hje
  refine Cd.exit (id := 2) ?_
  refine Cd.capl (i := 0) (A := A') (n := l'.length + 12) (c := c') rfl fun hcap => ?_
  refine Cd.seq ?_
  refine Cd.region ?_
  refine Ol.p mvs ?_
  refine Ol.p mvs ?_
  refine Ol.p (lens sl_L_api_Ins) ?_
  refine Ol.p (slh (A := A') (n := l'.length + 12) (c := c') (h := l.length) sl_L_api_Ins (by omega)) ?_
  refine Ol.p ass ?_
  refine Ol.nil ?_
  exact Cd.ret ⟨.slice A' l.length c', ret1 rfl rfl, _, .all, l', A', c', X, hbare, (show Value.slice A' l.length c' = .slice A' l'.length c' by rw [hll]), hX, rfl⟩
end
section
theorem kit_LentBlock_ct {w : World} {b : RBlk} (hl : Reads w w.heap.size 8 b.iA b.ins.length (b.ins.flatMap RIns.cells)) (ha : ∀ i ∈ b.ins, Reads w w.heap.size 1 i.aA i.args.length (ints i.args)) (hlen : b.ins.length < 2 ^ 36) (hal : ∀ i ∈ b.ins, i.args.length < 2 ^ 40) : Ct Try.prog 136 #[b.val] w (fun v R => ∃ b' : RBlk, b'.bare = b.bare ∧ v = b'.val ∧ R.Perm (blkLent b')) := by
  refine Ct.mk Try.func136 rfl rfl ?_
  refine Cd.seq ?_
  refine Cd.region ?_
  refine Ol.x bxg ?_
  rintro _ _ ⟨g1, rfl, rfl⟩
  refine Ol.x (alc zr_api_Block) ?_
  rintro _ _ ⟨g2, rfl, rfl⟩
  refine Ol.nil ?_
  refine Cd.seq ?_
  refine Cd.region ?_
  refine Ol.p (fdl fd_api_Block_0) ?_
  refine Ol.p (ld (v := .slice b.iA b.ins.length b.iC) one_L_api_Ins (Rd.blk (i := 1) rfl rfl)) ?_
  refine Ol.x (sp_call en_kit_LentRow (fun M w' hh => kit_LentRow_ct (l := b.ins) (hl.now hh) (fun i hi => (ha i hi).now hh) hlen hal)) ?_
  rintro _ _ ⟨_, rfl, l', A', c', X, hb, rfl, hX, rfl⟩
  refine Ol.keep Keep.comm ?_
  refine Ol.p (fdl fd_api_Block_0) ?_
  refine Ol.s (sto (v := .slice A' l'.length c') (i := 1) (k := 0 + 0) (.inr sz_L_api_Ins) rfl rfl rfl (by simp [RBlk.cells]) rfl) ?_
  refine Ol.nil ?_
  refine Cd.seq ?_
  refine Cd.region ?_
  refine Ol.p (ldw (cs := (b.at_ A' c' l').cells.toArray) ag_api_Block (i := 1) rfl rfl) ?_
  refine Ol.s (stw (vs := (b.at_ A' c' l').cells.toArray) sz_api_Block rfl (b.at_ A' c' l').one (i := 0) rfl rfl) ?_
  refine Ol.nil ?_
  exact Cd.ret ⟨_, retc rfl ag_api_Block rfl (i := 0) rfl rfl, _, .sub (.cons _ (.cons _ (List.Sublist.refl _))), b.at_ A' c' l', RBlk.at_bare hb, rfl, hX.cons _⟩
end
section
def NewBlL (l : List RBlk) : Value → List Res → Prop := fun v R => ∃ (l' : List RBlk) (A : Option Addr) (c : Nat) (X : List Res), l'.map RBlk.bare = l.map RBlk.bare ∧ v = .slice A l'.length c ∧ X.Perm (l'.flatMap blkLent) ∧ R = lBlk A c l' :: X
set_option maxHeartbeats 2000000 in
theorem kit_LentBlocks_ct {w : World} {A : Option Addr} {c : Nat} {l : List RBlk} (hl : BlksIn w w.heap.size A l) (hal : ∀ b ∈ l, ∀ i ∈ b.ins, i.args.length < 2 ^ 40) : Ct Try.prog 82 #[.slice A l.length c] w (NewBlL l) := by
  have hlen := hl.len
  refine Ct.mk Try.func82 rfl rfl ?_
  refine Cd.seq ?_
  refine Cd.region ?_
  refine Ol.p ass ?_
  refine Ol.nil ?_
  refine Cd.seq ?_
  refine Cd.region ?_
  refine Ol.p mvs ?_
  refine Ol.p (lens sl_L_api_Block) ?_
  refine Ol.p addi ?_
  refine Ol.x (mks (n := 0) (c := l.length + 12) sl_L_api_Block zr_api_Block (hy := congrArg (Value.int .i64) (show (l.length : Int) + 12 = ((l.length + 12 : Nat) : Int) by omega))) ?_
  rintro _ _ ⟨gm, rfl, rfl⟩
  refine Ol.p ass ?_
  refine Ol.nil ?_
  rw [Nat.zero_mul, List.take_zero]
  refine Cd.mid (fun σ' L' => ∃ (l' : List RBlk) (A' : Option Addr) (c' : Nat) (X : List Res), l'.map RBlk.bare = l.map RBlk.bare ∧ l'.length = l.length ∧ X.Perm (l'.flatMap blkLent) ∧ Has σ' [(0, .slice A l.length c), (3, .slice A' l'.length c')] ∧ row (.slice A' l'.length c') 50 5 l'.length (l'.flatMap RBlk.cells) :: X = L') ?_ ?_
  · refine Cd.seq ?_
    refine Cd.region ?_
    refine Ol.p asi ?_
    refine Ol.nil ?_
    refine Cd.block ?_
    refine Cd.loop (fun m σ L => ∃ (k : Nat) (l' : List RBlk) (A' : Option Addr) (c' : Nat) (X : List Res), m = l.length - k ∧ k ≤ l.length ∧ l'.map RBlk.bare = (l.take k).map RBlk.bare ∧ X.Perm (l'.flatMap blkLent) ∧ Has σ [(0, .slice A l.length c), (3, .slice A' l'.length c'), (4, .int .i64 k)] ∧ row (.slice A' l'.length c') 50 5 l'.length (l'.flatMap RBlk.cells) :: X = L) (n := l.length) ⟨0, [], some ⟨gm, 0, none⟩, l.length + 12, [], rfl, Nat.zero_le _, rfl, .refl _, ⟨rfl, rfl, rfl, trivial⟩, rfl⟩ ?_
    rintro _ σ L ⟨k, l', A', c', X, rfl, hk, hbare, hX, hs, rfl⟩
    have hkl : l'.length = k := by
      have := congrArg List.length hbare
      simp at this; omega
    refine Cd.has hs ?_
    clear hs
    refine Cd.seq ?_
    refine Cd.seq ?_
    refine Cd.region ?_
    refine Ol.p mvi ?_
    refine Ol.p mvs ?_
    refine Ol.p (lens sl_L_api_Block) ?_
    refine Ol.p lsi ?_
    refine Ol.nil ?_
    refine Cd.cond rfl (fun h => ?_) (fun h => ?_)
    · have hlt : k < l.length := by
        simp only [decide_eq_true_eq] at h; omega
      obtain ⟨b, hb⟩ : ∃ b, l[k]? = some b := ⟨_, List.getElem?_eq_getElem hlt⟩
      have hbm := List.mem_of_getElem? hb
      refine Cd.skip ?_
      refine Cd.seq ?_
      refine Cd.block ?_
      refine Cd.seq ?_
      refine Cd.region ?_
      refine Ol.p mvs ?_
      refine Ol.p mvi ?_
      refine Ol.p (ixn (ix := k) sl_L_api_Block (Som.slc hl.row (by omega))) ?_
      refine Ol.p (lds (es := b.cells) ag_api_Block hl.row b.len (fun j u hu => blk_cell hb hu)) ?_
      refine Ol.x (sp_call en_kit_LentBlock (fun M w' hh => kit_LentBlock_ct (b := b) ((hl.ins b hbm).now hh) (fun i hi => (hl.args b hbm i hi).now hh) (hl.ilen b hbm) (hal b hbm))) ?_
      rintro _ _ ⟨Y, rfl, b', hb', rfl, hY⟩
      refine Ol.keep (L' := [row (.slice A' l'.length c') 50 5 l'.length (l'.flatMap RBlk.cells)] ++ (X ++ blkLent b')) ⟨[], perm_count fun _ x => by
        have := hY.count_eq x
        simp only [List.count_append, List.count_cons, List.cons_append, List.nil_append, List.append_nil]; omega⟩ ?_
      refine Ol.x (alc zr_api_Block) ?_
      rintro _ _ ⟨g5, rfl, rfl⟩
      refine Ol.s (stw (vs := b'.cells.toArray) sz_api_Block rfl b'.one (i := 0) rfl rfl) ?_
      refine Ol.nil ?_
      refine Cd.region ?_
      refine Ol.p mvs ?_
      refine Ol.p (ldw (cs := b'.cells.toArray) ag_api_Block (i := 0) rfl rfl) ?_
      refine Ol.x (bs1 (cs := b'.cells) sl_L_api_Block zr_api_Block rfl rfl) ?_
      rintro _ _ ⟨g19, rfl, rfl⟩
      refine Ol.x (apn (i := 2) (m := 1) sl_L_api_Block zr_api_Block rfl (by decide) rfl (Src.row (i := 0) rfl rfl) b'.one (by unfold maxLen; omega) (by omega)) ?_
      rintro _ _ ⟨A2, c2, rfl, rfl⟩
      refine Ol.p ass ?_
      refine Ol.keep (.sub (.cons _ (.cons _ (List.Sublist.refl _)))) ?_
      refine Ol.nil ?_
      refine Cd.region ?_
      refine Ol.p mvi ?_
      refine Ol.p addi ?_
      refine Ol.p asi ?_
      refine Ol.nil ?_
      have e1 : l'.length + 1 = (l' ++ [b']).length := by simp
      have e2 : l'.flatMap RBlk.cells ++ b'.cells = (l' ++ [b']).flatMap RBlk.cells := by simp
      rw [e1, e2]
      refine ⟨l.length - (k + 1), by omega, k + 1, l' ++ [b'], A2, c2, X ++ blkLent b', rfl, by omega, ?_, ?_, ⟨rfl, rfl, rfl, trivial⟩, rfl⟩
      · rw [take_snoc_ hb, List.map_append, List.map_append, hbare]; simp [hb']
      · rw [List.flatMap_append]
        refine List.Perm.append hX ?_
        simp
    have hke : k = l.length := by
      simp only [decide_eq_false_iff_not] at h; omega
    rw [hke, List.take_of_length_le (Nat.le_refl _)] at hbare
    refine Cd.exit (id := 0) ?_
    exact ⟨l', A', c', X, hbare, by omega, hX, ⟨rfl, rfl, trivial⟩, rfl⟩
  rintro σ' _ ⟨l', A', c', X, hbare, hll, hX, hs', rfl⟩
  refine Cd.has hs' ?_
  clear hs'
  refine Cd.seq ?_
  refine Cd.seq ?_
  refine Cd.region ?_
  refine Ol.p asi ?_
  refine Ol.nil ?_
  refine Cd.block ?_
  refine Cd.loop (fun m σ L => ∃ (j : Nat) (A' : Option Addr) (c' : Nat), m = 12 - j ∧ j ≤ 12 ∧ Has σ [(0, .slice A l.length c), (3, .slice A' (l'.length + j) c'), (6, .int .i64 j)] ∧ row (.slice A' (l'.length + j) c') 50 5 (l'.length + j) ((l' ++ mkBL j).flatMap RBlk.cells) :: X = L) (n := 12) ⟨0, A', c', rfl, Nat.zero_le _, ⟨rfl, rfl, rfl, trivial⟩, by rw [show mkBL 0 = [] from rfl, List.append_nil]; rfl⟩ ?_
  rintro _ σ L ⟨j, A', c', rfl, hj, hs, rfl⟩
  refine Cd.has hs ?_
  clear hs
  refine Cd.seq ?_
  refine Cd.seq ?_
  refine Cd.region ?_
  refine Ol.p mvi ?_
  refine Ol.p lsi ?_
  refine Ol.nil ?_
  refine Cd.cond rfl (fun h => ?_) (fun h => ?_)
  · have hlt : j < 12 := by
      have h : decide ((j : Int) < 12) = true := h
      have := of_decide_eq_true h
      omega
    refine Cd.skip ?_
    refine Cd.seq ?_
    refine Cd.block ?_
    refine Cd.region ?_
    refine Ol.p mvs ?_
    refine Ol.p mvi ?_
    refine Ol.s (cl (v := (MB 1 j).val) en_kit_markBlock (fun M w' hh => kit_markBlock_ct (k := 1) (by decide) (by omega))) ?_
    refine Ol.x (bs1 (v := (MB 1 j).val) (cs := (MB 1 j).cells) sl_L_api_Block zr_api_Block rfl rfl) ?_
    rintro _ _ ⟨g33, rfl, rfl⟩
    refine Ol.x (apn (i := 1) (m := 1) sl_L_api_Block zr_api_Block rfl (by decide) rfl (Src.row (i := 0) rfl rfl) (MB 1 j).one (by unfold maxLen; omega) (by omega)) ?_
    rintro _ _ ⟨A2, c2, rfl, rfl⟩
    refine Ol.p ass ?_
    refine Ol.keep (.sub (.cons _ (List.Sublist.refl _))) ?_
    refine Ol.nil ?_
    refine Cd.region ?_
    refine Ol.p mvi ?_
    refine Ol.p addi ?_
    refine Ol.p asi ?_
    refine Ol.nil ?_
    refine ⟨12 - (j + 1), by omega, j + 1, A2, c2, rfl, by omega, ⟨rfl, rfl, rfl, trivial⟩, ?_⟩
    rw [mkBL_succ, ← List.append_assoc, List.flatMap_append (xs := l' ++ mkBL j), List.flatMap_singleton]
    rfl
  have hje : j = 12 := by
    have h : decide ((j : Int) < 12) = false := h
    have := of_decide_eq_false h
    omega
  subst hje
  refine Cd.exit (id := 2) ?_
  refine Cd.capl (i := 0) (A := A') (n := l'.length + 12) (c := c') rfl fun hcap => ?_
  refine Cd.seq ?_
  refine Cd.region ?_
  refine Ol.p mvs ?_
  refine Ol.p mvs ?_
  refine Ol.p (lens sl_L_api_Block) ?_
  refine Ol.p (slh (A := A') (n := l'.length + 12) (c := c') (h := l.length) sl_L_api_Block (by omega)) ?_
  refine Ol.p ass ?_
  refine Ol.nil ?_
  exact Cd.ret ⟨.slice A' l.length c', ret1 rfl rfl, _, .all, l', A', c', X, hbare, (show Value.slice A' l.length c' = .slice A' l'.length c' by rw [hll]), hX, rfl⟩
end
section
theorem kit_LentFunc_ct {w : World} {f : RFun} (hf : FunAt w w.heap.size f) (hp : f.params.length < 2 ^ 40) (hl : BlksIn w w.heap.size f.bA f.blocks) (hal : ∀ b ∈ f.blocks, ∀ i ∈ b.ins, i.args.length < 2 ^ 40) : Ct Try.prog 32 #[f.val] w (fun v R => ∃ g : RFun, g.bare = f.bare ∧ v = g.val ∧ R.Perm (funLent g)) := by
  refine Ct.mk Try.func32 rfl rfl ?_
  refine Cd.seq ?_
  refine Cd.region ?_
  refine Ol.x bxg ?_
  rintro _ _ ⟨g1, rfl, rfl⟩
  refine Ol.x (alc zr_api_Func) ?_
  rintro _ _ ⟨g2, rfl, rfl⟩
  refine Ol.nil ?_
  refine Cd.seq ?_
  refine Cd.region ?_
  refine Ol.p (fdl fd_api_Func_0) ?_
  refine Ol.p (ld (v := .slice f.pA f.params.length f.pC) one_L_int (Rd.blk (i := 1) rfl rfl)) ?_
  refine Ol.x (sp_call en_kit_LentInts (fun M w' hh => kit_LentInts_ct (l := f.params) (hf.params.now hh) hp)) ?_
  rintro _ _ ⟨_, rfl, A', c', rfl, rfl⟩
  refine Ol.p (fdl fd_api_Func_0) ?_
  refine Ol.s (sto (v := .slice A' f.params.length c') (i := 2) (k := 0 + 0) (.inr sz_L_int) rfl rfl rfl (by simp [RFun.cells]) rfl) ?_
  refine Ol.nil ?_
  refine Cd.seq ?_
  refine Cd.region ?_
  refine Ol.p (fdl fd_api_Func_1) ?_
  refine Ol.p (ld (v := .slice f.bA f.blocks.length f.bC) one_L_api_Block (Rd.blk (i := 2) rfl rfl)) ?_
  refine Ol.x (sp_call en_kit_LentBlocks (fun M w' hh => kit_LentBlocks_ct (l := f.blocks) (hl.now hh) hal)) ?_
  rintro _ _ ⟨_, rfl, l', A2, c2, X, hb, rfl, hX, rfl⟩
  refine Ol.keep Keep.comm ?_
  obtain ⟨g, hg⟩ : ∃ g : RFun, g = ⟨A', c', f.params, A2, c2, l'⟩ := ⟨_, rfl⟩
  refine Ol.p (fdl fd_api_Func_1) ?_
  refine Ol.s (sto (v := .slice A2 l'.length c2) (i := 2) (k := 0 + 1) (.inr sz_L_api_Block) rfl rfl rfl (by simp [RFun.cells]) rfl) ?_
  refine Ol.nil ?_
  refine Cd.seq ?_
  refine Cd.region ?_
  refine Ol.p (ldw (cs := #[.slice A' f.params.length c', .slice A2 l'.length c2]) ag_api_Func (i := 2) rfl rfl) ?_
  refine Ol.s (stw (vs := #[.slice A' f.params.length c', .slice A2 l'.length c2]) sz_api_Func rfl (by intro u hu; simp at hu; rcases hu with rfl | rfl <;> rfl) (i := 1) rfl rfl) ?_
  refine Ol.nil ?_
  refine Cd.ret ⟨_, retc rfl ag_api_Func rfl (i := 1) rfl rfl, _, .sub (.cons_cons _ (.cons _ (.cons _ (List.Sublist.refl _)))), g, ?_, by rw [hg]; rfl, ?_⟩
  · rw [hg]
    unfold RFun.bare
    simp only [hb]
  · rw [hg]
    exact (hX.cons _).cons _
end
section
set_option maxHeartbeats 2000000 in
theorem kit_KeptInts_ct {w : World} {A B : Option Addr} {c d : Nat} {l : List Int} (hro : Reads w w.heap.size 1 A (l.length + 12) (ints (l ++ mkL 12))) (hc : l.length + 12 ≤ c) (hl : Reads w w.heap.size 1 B l.length (ints l)) (hlen : l.length < 2 ^ 40) : Ct Try.prog 27 #[.slice A l.length c, .slice B l.length d] w (Is (.bool true)) := by
  obtain ⟨l', hl'⟩ : ∃ l', l' = l := ⟨_, rfl⟩
  have hll : l'.length = l.length := by rw [hl']
  rw [show (Value.slice A l.length c) = .slice A l'.length c by rw [hll]]
  refine Ct.mk Try.func27 rfl rfl ?_
  refine Cd.seq ?_
  refine Cd.region ?_
  refine Ol.p asb ?_
  refine Ol.nil ?_
  refine Cd.seq ?_
  refine Cd.seq ?_
  refine Cd.region ?_
  refine Ol.p mvs ?_
  refine Ol.p (lens sl_L_int) ?_
  refine Ol.p mvs ?_
  refine Ol.p (lens sl_L_int) ?_
  refine Ol.p nei ?_
  refine Ol.nil ?_
  refine Cd.cond rfl (fun h => ?_) (fun _ => ?_)
  · exfalso
    have h : (!decide ((l'.length : Int) = (l.length : Int))) = true := h
    rw [decide_eq_true (by omega)] at h
    cases h
  refine Cd.skip ?_
  refine Cd.seq ?_
  refine Cd.region ?_
  refine Ol.p mvs ?_
  refine Ol.p mvs ?_
  refine Ol.p (lens sl_L_int) ?_
  refine Ol.p addi ?_
  refine Ol.p (slh (A := A) (c := c) (h := l.length + 12) sl_L_int (by omega) (hy := congrArg (Value.int .i64) (show (l.length : Int) + 12 = ((l.length + 12 : Nat) : Int) by omega))) ?_
  refine Ol.p ass ?_
  refine Ol.nil ?_
  refine Cd.seq ?_
  refine Cd.seq ?_
  refine Cd.region ?_
  refine Ol.p asi ?_
  refine Ol.nil ?_
  refine Cd.block ?_
  refine Cd.loop (fun m σ L => ∃ k, m = l.length + 12 - k ∧ k ≤ l.length + 12 ∧ Has σ [(1, .slice B l.length d), (5, .slice A (l.length + 12) c), (6, .int .i64 k)] ∧ [] = L) (n := l.length + 12) ⟨0, rfl, Nat.zero_le _, ⟨rfl, rfl, rfl, trivial⟩, rfl⟩ ?_
  rintro _ σ L ⟨k, rfl, hk, hs, rfl⟩
  refine Cd.has hs ?_
  clear hs
  refine Cd.seq ?_
  refine Cd.seq ?_
  refine Cd.region ?_
  refine Ol.p mvi ?_
  refine Ol.p mvs ?_
  refine Ol.p (lens sl_L_int) ?_
  refine Ol.p lsi ?_
  refine Ol.nil ?_
  refine Cd.cond rfl (fun h => ?_) (fun h => ?_)
  · have hlt : k < l.length + 12 := by
      have h : decide ((k : Int) < ((l.length + 12 : Nat) : Int)) = true := h
      have := of_decide_eq_true h
      omega
    refine Cd.skip ?_
    refine Cd.seq ?_
    refine Cd.block ?_
    refine Cd.mid (fun σ' L' => Has σ' [(1, .slice B l.length d), (5, .slice A (l.length + 12) c), (6, .int .i64 k), (57, .bool false)] ∧ [] = L') ?_ ?_
    · cases q4 : decide ((k : Int) < (l.length : Int)) with
      | true =>
        have hkl : k < l.length := by have := of_decide_eq_true q4; omega
        have q20 : decide ((l.length : Int) ≤ (k : Int)) = false := decide_eq_false (by omega)
        obtain ⟨x, hx⟩ : ∃ x, l'[k]? = some x := ⟨_, List.getElem?_eq_getElem (by omega)⟩
        obtain ⟨y, hy⟩ : ∃ y, l[k]? = some y := ⟨_, List.getElem?_eq_getElem hkl⟩
        have hxm := List.mem_of_getElem? hx
        have hym := List.mem_of_getElem? hy
        rw [hl'] at hx
        have q16 : (!decide (x = x)) = false := by simp
        refine Cd.draw mixed 35 (fun _ => none) (fun _ => []) (by kernel_rfl) (fun _ _ h => by cases h) (fun u hu => ?_)
        refine Wk.p mvi ?_
        refine Wk.p mvs ?_
        refine Wk.p (lens sl_L_int) ?_
        refine Wk.p lsi ?_
        refine Wk.p mvb ?_
        refine Wk.gp q4 mvs ?_
        refine Wk.gp q4 mvi ?_
        refine Wk.gp q4 (ixn (ix := k) sl_L_int (Som.slc hro (by omega))) ?_
        refine Wk.gp q4 (ld (v := .int .i64 x) one_int (Rd.slc hro (show (ints (l ++ mkL 12))[k * 1]? = some (.int .i64 x) from by rw [Nat.mul_one]; unfold ints; rw [List.getElem?_map, mk_old hx]; rfl))) ?_
        refine Wk.gp q4 mvs ?_
        refine Wk.gp q4 mvi ?_
        refine Wk.gp q4 (ixn (ix := k) sl_L_int (Som.slc hl (by omega))) ?_
        refine Wk.gp q4 (ld (v := .int .i64 x) one_int (Rd.slc hl (show (ints l)[k * 1]? = some (.int .i64 x) from by rw [Nat.mul_one]; unfold ints; rw [List.getElem?_map, hx]; rfl))) ?_
        refine Wk.gp q4 eqi ?_
        refine Wk.gp q4 noti ?_
        refine Wk.p (pkTb q4) ?_
        refine Wk.p mvb ?_
        refine Wk.gp q16 mvi ?_
        refine Wk.gp q16 mvs ?_
        refine Wk.gp q16 (lens sl_L_int) ?_
        refine Wk.gp q16 gei ?_
        refine Wk.gp q16 mvb ?_
        refine Wk.gn q20 ?_
        refine Wk.gn q20 ?_
        refine Wk.gn q20 ?_
        refine Wk.gn q20 ?_
        refine Wk.gn q20 ?_
        refine Wk.gn q20 ?_
        refine Wk.gn q20 ?_
        refine Wk.gn q20 ?_
        refine Wk.gn q20 ?_
        refine Wk.gn q20 ?_
        refine Wk.gn q20 ?_
        refine Wk.gp q16 (pkFb q20) ?_
        refine Wk.p (pkFb q16) ?_
        refine Wk.nil ?_
        refine Ol.nil ?_
        exact ⟨⟨rfl, rfl, rfl, rfl, trivial⟩, rfl⟩
      | false =>
        have hkl : l.length ≤ k := by have := of_decide_eq_false q4; omega
        have q20 : decide ((l.length : Int) ≤ (k : Int)) = true := decide_eq_true (by omega)
        obtain ⟨j, hj⟩ : ∃ j, k = l.length + j := ⟨k - l.length, by omega⟩
        have hjv : ((k : Int) - (l.length : Int)) = (j : Int) := by omega
        have hz := mk_at (l := l') (F := mkN 1) (j := j) (by omega)
        rw [hll, ← hj, hl'] at hz
        have hmk : ∀ w', Ct Try.prog 63 #[.int .i64 1, .int .i64 ((k : Int) - (l.length : Int))] w' (Is (.int .i64 (mkN 1 j))) := fun w' => by
          rw [hjv]
          exact kit_mark_ct (k := 1) (by decide) (by omega)
        have q31 : (!decide (mkN 1 j = mkN 1 j)) = false := by simp
        refine Cd.draw mixed 35 (exIs (fun opNo => match opNo with | 30 => some ((.int .i64 (mkN 1 j))) | _ => none)) (fun _ => []) (by kernel_rfl) exIs_in (fun u hu => ?_)
        refine Wk.p mvi ?_
        refine Wk.p mvs ?_
        refine Wk.p (lens sl_L_int) ?_
        refine Wk.p lsi ?_
        refine Wk.p mvb ?_
        refine Wk.gn q4 ?_
        refine Wk.gn q4 ?_
        refine Wk.gn q4 ?_
        refine Wk.gn q4 ?_
        refine Wk.gn q4 ?_
        refine Wk.gn q4 ?_
        refine Wk.gn q4 ?_
        refine Wk.gn q4 ?_
        refine Wk.gn q4 ?_
        refine Wk.gn q4 ?_
        refine Wk.p (pkFb q4) ?_
        refine Wk.p mvb ?_
        refine Wk.gp rfl mvi ?_
        refine Wk.gp rfl mvs ?_
        refine Wk.gp rfl (lens sl_L_int) ?_
        refine Wk.gp rfl gei ?_
        refine Wk.gp rfl mvb ?_
        refine Wk.gp q20 mvs ?_
        refine Wk.gp q20 mvi ?_
        refine Wk.gp q20 (ixn (ix := k) sl_L_int (Som.slc hro (by omega))) ?_
        refine Wk.gp q20 (ld (v := .int .i64 (mkN 1 j)) one_int (Rd.slc hro (show (ints (l ++ mkL 12))[k * 1]? = some (.int .i64 (mkN 1 j)) from by rw [Nat.mul_one]; unfold ints; rw [List.getElem?_map, show (l ++ mkL 12)[k]? = some (mkN 1 j) from hz]; rfl))) ?_
        refine Wk.gp q20 mvi ?_
        refine Wk.gp q20 mvs ?_
        refine Wk.gp q20 (lens sl_L_int) ?_
        refine Wk.gp q20 subi ?_
        refine Wk.gdk hu q20 (sp_call (vs := [.int .i64 1, .int .i64 ((k : Int) - (l.length : Int))]) en_kit_mark (fun M w' hh => hmk w')) ?_
        refine Wk.gp q20 eqi ?_
        refine Wk.gp q20 noti ?_
        refine Wk.gp rfl (pkTb q20) ?_
        refine Wk.p (pkFb rfl) ?_
        refine Wk.nil ?_
        rw [needs_exIs hu rfl]
        refine Ol.nil ?_
        exact ⟨⟨rfl, rfl, rfl, congrArg Value.bool q31, trivial⟩, rfl⟩
    rintro σ' _ ⟨hs', rfl⟩
    refine Cd.has hs' ?_
    clear hs'
    refine Cd.cond rfl (fun h => by cases h) (fun _ => ?_)
    refine Cd.skip ?_
    refine Cd.region ?_
    refine Ol.p mvi ?_
    refine Ol.p addi ?_
    refine Ol.p asi ?_
    refine Ol.nil ?_
    exact ⟨l.length + 12 - (k + 1), by omega, k + 1, rfl, by omega, ⟨rfl, rfl, rfl, trivial⟩, rfl⟩
  refine Cd.exit (id := 0) ?_
  refine Cd.seq ?_
  refine Cd.region ?_
  refine Ol.p asb ?_
  refine Ol.nil ?_
  exact Cd.ret ⟨.bool true, ret1 rfl rfl, [], Keep.nil, rfl, rfl⟩
end
section
theorem kit_KeptIns_ct {w : World} {a b : RIns} (hb : a.bare = b.bare) (ha : Reads w w.heap.size 1 a.aA (a.args.length + 12) (ints (a.args ++ mkL 12))) (hc : a.args.length + 12 ≤ a.aC) (hr : Reads w w.heap.size 1 b.aA b.args.length (ints b.args)) (hlen : a.args.length < 2 ^ 40) : Ct Try.prog 175 #[a.val, b.val] w (Is (.bool true)) := by
  have hargs : b.args = a.args := (congrArg RIns.args hb : a.bare.args = b.bare.args).symm
  rw [hargs] at hr
  have hS : decide (a.bare = b.bare) = true := decide_eq_true hb
  have hv : b.val = .agg #[.int .i64 b.op, .int .i64 b.dst, .int .i64 b.a, .int .i64 b.b, .int .i64 b.imm, .int .i64 b.callee, .slice b.aA a.args.length b.aC, .int .i64 b.many] := by
    rw [← hargs]; rfl
  refine Ct.mk Try.func175 rfl rfl ?_
  refine Cd.seq ?_
  refine Cd.region ?_
  refine Ol.x bxg ?_
  rintro _ _ ⟨g2, rfl, rfl⟩
  refine Ol.x bxg ?_
  rintro _ _ ⟨g3, rfl, rfl⟩
  refine Ol.p asb ?_
  refine Ol.nil ?_
  refine Cd.seq ?_
  refine Cd.region ?_
  refine Ol.p (ldw (cs := a.cells.toArray) ag_api_Ins (i := 1) rfl rfl) ?_
  refine Ol.p (ldw (cs := b.cells.toArray) ag_api_Ins (i := 0) rfl rfl) ?_
  refine Ol.s (cl (v := .bool true) en_kit_SameIns (fun M w' hh => hS ▸ kit_SameIns_ct ((ha.lentI).now hh) (hargs ▸ hr.now hh) (by omega) (by rw [hargs]; omega))) ?_
  refine Ol.p mvb ?_
  refine Ol.gp rfl (fdl fd_api_Ins_6) ?_
  refine Ol.gp rfl (ld (v := .slice a.aA a.args.length a.aC) one_L_int (Rd.blk (i := 1) rfl rfl)) ?_
  refine Ol.gp rfl (fdl fd_api_Ins_6) ?_
  refine Ol.gp rfl (ld (v := .slice b.aA a.args.length b.aC) one_L_int (Rd.blk (i := 0) rfl (show b.cells.toArray[0 + 6]? = some (.slice b.aA a.args.length b.aC) from by rw [← hargs]; rfl))) ?_
  refine Ol.gs rfl (cl (v := .bool true) en_kit_KeptInts (fun M w' hh => kit_KeptInts_ct (l := a.args) (ha.now hh) hc (hr.now hh) hlen)) ?_
  refine Ol.p (pkTb rfl) ?_
  refine Ol.p asb ?_
  refine Ol.nil ?_
  exact Cd.ret ⟨.bool true, ret1 rfl rfl, [], Keep.nil, rfl, rfl⟩
end
section
set_option maxHeartbeats 2000000 in
theorem kit_KeptRow_ct {w : World} {A B : Option Addr} {c d : Nat} {l' l : List RIns} (hb : l'.map RIns.bare = l.map RIns.bare) (hro : Reads w w.heap.size 8 A (l'.length + 12) ((l' ++ mkIL 12).flatMap RIns.cells)) (hc : l'.length + 12 ≤ c) (hra : ∀ i ∈ l', Reads w w.heap.size 1 i.aA (i.args.length + 12) (ints (i.args ++ mkL 12))) (hac : ∀ i ∈ l', i.args.length + 12 ≤ i.aC) (hl : Reads w w.heap.size 8 B l.length (l.flatMap RIns.cells)) (hla : ∀ i ∈ l, Reads w w.heap.size 1 i.aA i.args.length (ints i.args)) (hlen : l.length < 2 ^ 36) (hal : ∀ i ∈ l, i.args.length < 2 ^ 40) : Ct Try.prog 168 #[.slice A l'.length c, .slice B l.length d] w (Is (.bool true)) := by
  have hll : l'.length = l.length := by
    have := congrArg List.length hb
    simpa using this
  rw [hll] at hro hc
  refine Ct.mk Try.func168 rfl rfl ?_
  refine Cd.seq ?_
  refine Cd.region ?_
  refine Ol.p asb ?_
  refine Ol.nil ?_
  refine Cd.seq ?_
  refine Cd.seq ?_
  refine Cd.region ?_
  refine Ol.p mvs ?_
  refine Ol.p (lens sl_L_api_Ins) ?_
  refine Ol.p mvs ?_
  refine Ol.p (lens sl_L_api_Ins) ?_
  refine Ol.p nei ?_
  refine Ol.nil ?_
  refine Cd.cond rfl (fun h => ?_) (fun _ => ?_)
  · exfalso
    have h : (!decide ((l'.length : Int) = (l.length : Int))) = true := h
    rw [decide_eq_true (by omega)] at h
    cases h
  refine Cd.skip ?_
  refine Cd.seq ?_
  refine Cd.region ?_
  refine Ol.p mvs ?_
  refine Ol.p mvs ?_
  refine Ol.p (lens sl_L_api_Ins) ?_
  refine Ol.p addi ?_
  refine Ol.p (slh (A := A) (c := c) (h := l.length + 12) sl_L_api_Ins (by omega) (hy := congrArg (Value.int .i64) (show (l.length : Int) + 12 = ((l.length + 12 : Nat) : Int) by omega))) ?_
  refine Ol.p ass ?_
  refine Ol.nil ?_
  refine Cd.seq ?_
  refine Cd.seq ?_
  refine Cd.region ?_
  refine Ol.p asi ?_
  refine Ol.nil ?_
  refine Cd.block ?_
  refine Cd.loop (fun m σ L => ∃ k, m = l.length + 12 - k ∧ k ≤ l.length + 12 ∧ Has σ [(1, .slice B l.length d), (5, .slice A (l.length + 12) c), (6, .int .i64 k)] ∧ [] = L) (n := l.length + 12) ⟨0, rfl, Nat.zero_le _, ⟨rfl, rfl, rfl, trivial⟩, rfl⟩ ?_
  rintro _ σ L ⟨k, rfl, hk, hs, rfl⟩
  refine Cd.has hs ?_
  clear hs
  refine Cd.seq ?_
  refine Cd.seq ?_
  refine Cd.region ?_
  refine Ol.p mvi ?_
  refine Ol.p mvs ?_
  refine Ol.p (lens sl_L_api_Ins) ?_
  refine Ol.p lsi ?_
  refine Ol.nil ?_
  refine Cd.cond rfl (fun h => ?_) (fun h => ?_)
  · have hlt : k < l.length + 12 := by
      have h : decide ((k : Int) < ((l.length + 12 : Nat) : Int)) = true := h
      have := of_decide_eq_true h
      omega
    refine Cd.skip ?_
    refine Cd.seq ?_
    refine Cd.block ?_
    refine Cd.mid (fun σ' L' => Has σ' [(1, .slice B l.length d), (5, .slice A (l.length + 12) c), (6, .int .i64 k), (57, .bool false)] ∧ [] = L') ?_ ?_
    · cases q4 : decide ((k : Int) < (l.length : Int)) with
      | true =>
        have hkl : k < l.length := by have := of_decide_eq_true q4; omega
        have q20 : decide ((l.length : Int) ≤ (k : Int)) = false := decide_eq_false (by omega)
        obtain ⟨x, hx⟩ : ∃ x, l'[k]? = some x := ⟨_, List.getElem?_eq_getElem (by omega)⟩
        obtain ⟨y, hy⟩ : ∃ y, l[k]? = some y := ⟨_, List.getElem?_eq_getElem hkl⟩
        have hxm := List.mem_of_getElem? hx
        have hym := List.mem_of_getElem? hy
        have hxy : x.bare = y.bare := by
          have := congrArg (fun z : List RIns => z[k]?) hb
          simp only [List.getElem?_map, hx, hy, Option.map_some] at this
          exact Option.some.inj this
        have hxl : x.args.length < 2 ^ 40 := by
          have e : x.args = y.args := (congrArg RIns.args hxy : x.bare.args = y.bare.args)
          rw [e]; exact hal y hym
        refine Cd.draw mixed 35 (exIs (fun opNo => match opNo with | 13 => some (.bool true) | _ => none)) (fun _ => []) (by kernel_rfl) exIs_in (fun u hu => ?_)
        refine Wk.p mvi ?_
        refine Wk.p mvs ?_
        refine Wk.p (lens sl_L_api_Ins) ?_
        refine Wk.p lsi ?_
        refine Wk.p mvb ?_
        refine Wk.gp q4 mvs ?_
        refine Wk.gp q4 mvi ?_
        refine Wk.gp q4 (ixn (ix := k) sl_L_api_Ins (Som.slc hro (by omega))) ?_
        refine Wk.gp q4 (lds (es := x.cells) ag_api_Ins hro x.len (fun q u hu => ins_cell (mk_old hx) hu)) ?_
        refine Wk.gp q4 mvs ?_
        refine Wk.gp q4 mvi ?_
        refine Wk.gp q4 (ixn (ix := k) sl_L_api_Ins (Som.slc hl (by omega))) ?_
        refine Wk.gp q4 (lds (es := y.cells) ag_api_Ins hl y.len (fun q u hu => ins_cell hy hu)) ?_
        refine Wk.gdk hu q4 (sp_call (vs := [x.val, y.val]) en_kit_KeptIns (fun M w' hh => kit_KeptIns_ct hxy ((hra x hxm).now hh) (hac x hxm) ((hla y hym).now hh) hxl)) ?_
        refine Wk.gp q4 noti ?_
        refine Wk.p (pkTb q4) ?_
        refine Wk.p mvb ?_
        refine Wk.gp rfl mvi ?_
        refine Wk.gp rfl mvs ?_
        refine Wk.gp rfl (lens sl_L_api_Ins) ?_
        refine Wk.gp rfl gei ?_
        refine Wk.gp rfl mvb ?_
        refine Wk.gn q20 ?_
        refine Wk.gn q20 ?_
        refine Wk.gn q20 ?_
        refine Wk.gn q20 ?_
        refine Wk.gn q20 ?_
        refine Wk.gn q20 ?_
        refine Wk.gn q20 ?_
        refine Wk.gn q20 ?_
        refine Wk.gn q20 ?_
        refine Wk.gn q20 ?_
        refine Wk.gn q20 ?_
        refine Wk.gp rfl (pkFb q20) ?_
        refine Wk.p (pkFb rfl) ?_
        refine Wk.nil ?_
        rw [needs_exIs hu rfl]
        refine Ol.nil ?_
        exact ⟨⟨rfl, rfl, rfl, rfl, trivial⟩, rfl⟩
      | false =>
        have hkl : l.length ≤ k := by have := of_decide_eq_false q4; omega
        have q20 : decide ((l.length : Int) ≤ (k : Int)) = true := decide_eq_true (by omega)
        obtain ⟨j, hj⟩ : ∃ j, k = l.length + j := ⟨k - l.length, by omega⟩
        have hjv : ((k : Int) - (l.length : Int)) = (j : Int) := by omega
        have hz := mk_at (l := l') (F := MI 1) (j := j) (by omega)
        rw [hll, ← hj] at hz
        have hmk : ∀ w', Ct Try.prog 150 #[.int .i64 1, .int .i64 ((k : Int) - (l.length : Int))] w' (Is (MI 1 j).val) := fun w' => by
          rw [hjv]
          exact kit_markIns_ct (k := 1) (by decide) (by omega)
        have hSM : decide ((MI 1 j).bare = (MI 1 j).bare) = true := by simp
        have hsm : ∀ w', Ct Try.prog 151 #[(MI 1 j).val, (MI 1 j).val] w' (Is (.bool true)) := fun w' => hSM ▸ kit_SameIns_ct reads_none_ reads_none_ (by simp [MI]) (by simp [MI])
        refine Cd.draw mixed 35 (exIs (fun opNo => match opNo with | 30 => some ((MI 1 j).val) | 31 => some (.bool true) | _ => none)) (fun _ => []) (by kernel_rfl) exIs_in (fun u hu => ?_)
        refine Wk.p mvi ?_
        refine Wk.p mvs ?_
        refine Wk.p (lens sl_L_api_Ins) ?_
        refine Wk.p lsi ?_
        refine Wk.p mvb ?_
        refine Wk.gn q4 ?_
        refine Wk.gn q4 ?_
        refine Wk.gn q4 ?_
        refine Wk.gn q4 ?_
        refine Wk.gn q4 ?_
        refine Wk.gn q4 ?_
        refine Wk.gn q4 ?_
        refine Wk.gn q4 ?_
        refine Wk.gn q4 ?_
        refine Wk.gn q4 ?_
        refine Wk.p (pkFb q4) ?_
        refine Wk.p mvb ?_
        refine Wk.gp rfl mvi ?_
        refine Wk.gp rfl mvs ?_
        refine Wk.gp rfl (lens sl_L_api_Ins) ?_
        refine Wk.gp rfl gei ?_
        refine Wk.gp rfl mvb ?_
        refine Wk.gp q20 mvs ?_
        refine Wk.gp q20 mvi ?_
        refine Wk.gp q20 (ixn (ix := k) sl_L_api_Ins (Som.slc hro (by omega))) ?_
        refine Wk.gp q20 (lds (es := (MI 1 j).cells) ag_api_Ins hro (MI 1 j).len (fun q u hu => ins_cell (l := l' ++ mkIL 12) hz hu)) ?_
        refine Wk.gp q20 mvi ?_
        refine Wk.gp q20 mvs ?_
        refine Wk.gp q20 (lens sl_L_api_Ins) ?_
        refine Wk.gp q20 subi ?_
        refine Wk.gdk hu q20 (sp_call (vs := [.int .i64 1, .int .i64 ((k : Int) - (l.length : Int))]) en_kit_markIns (fun M w' hh => hmk w')) ?_
        refine Wk.gdk hu q20 (sp_call (vs := [(MI 1 j).val, (MI 1 j).val]) en_kit_SameIns (fun M w' hh => hsm w')) ?_
        refine Wk.gp q20 noti ?_
        refine Wk.gp rfl (pkTb q20) ?_
        refine Wk.p (pkFb rfl) ?_
        refine Wk.nil ?_
        rw [needs_exIs hu rfl]
        refine Ol.nil ?_
        exact ⟨⟨rfl, rfl, rfl, rfl, trivial⟩, rfl⟩
    rintro σ' _ ⟨hs', rfl⟩
    refine Cd.has hs' ?_
    clear hs'
    refine Cd.cond rfl (fun h => by cases h) (fun _ => ?_)
    refine Cd.skip ?_
    refine Cd.region ?_
    refine Ol.p mvi ?_
    refine Ol.p addi ?_
    refine Ol.p asi ?_
    refine Ol.nil ?_
    exact ⟨l.length + 12 - (k + 1), by omega, k + 1, rfl, by omega, ⟨rfl, rfl, rfl, trivial⟩, rfl⟩
  refine Cd.exit (id := 0) ?_
  refine Cd.seq ?_
  refine Cd.region ?_
  refine Ol.p asb ?_
  refine Ol.nil ?_
  exact Cd.ret ⟨.bool true, ret1 rfl rfl, [], Keep.nil, rfl, rfl⟩
end
section
theorem kit_KeptBlock_ct {w : World} {a b : RBlk} (hb : a.bare = b.bare) (ha : BlkL w w.heap.size a) (hr : BlkR w w.heap.size b) (hlen : b.ins.length < 2 ^ 36) (hal : ∀ i ∈ b.ins, i.args.length < 2 ^ 40) : Ct Try.prog 138 #[a.val, b.val] w (Is (.bool true)) := by
  have hins : a.ins.map RIns.bare = b.ins.map RIns.bare := (congrArg RBlk.ins hb : a.bare.ins = b.bare.ins)
  have hll : a.ins.length = b.ins.length := by
    have := congrArg List.length hins
    simpa using this
  have hS : decide (a.bare = b.bare) = true := decide_eq_true hb
  have haa : ∀ i ∈ a.ins, i.args.length < 2 ^ 40 := fun i hi => by
    have : i.bare ∈ b.ins.map RIns.bare := hins ▸ List.mem_map_of_mem hi
    obtain ⟨j, hj, ej⟩ := List.mem_map.1 this
    have e : j.args = i.args := (congrArg RIns.args ej : j.bare.args = i.bare.args)
    rw [← e]; exact hal j hj
  have har : BlkR w w.heap.size a := ⟨ha.ins.lentN, fun i hi => (ha.args i hi).lentI, fun i hi => by have := haa i hi; omega, by omega⟩
  refine Ct.mk Try.func138 rfl rfl ?_
  refine Cd.seq ?_
  refine Cd.region ?_
  refine Ol.x bxg ?_
  rintro _ _ ⟨g2, rfl, rfl⟩
  refine Ol.x bxg ?_
  rintro _ _ ⟨g3, rfl, rfl⟩
  refine Ol.p asb ?_
  refine Ol.nil ?_
  refine Cd.seq ?_
  refine Cd.region ?_
  refine Ol.p (ldw (cs := a.cells.toArray) ag_api_Block (i := 1) rfl rfl) ?_
  refine Ol.p (ldw (cs := b.cells.toArray) ag_api_Block (i := 0) rfl rfl) ?_
  refine Ol.s (cl (v := .bool true) en_kit_SameBlock (fun M w' hh => hS ▸ kit_SameBlock_ct (har.now hh) (hr.now hh))) ?_
  refine Ol.p mvb ?_
  refine Ol.gp rfl (fdl fd_api_Block_0) ?_
  refine Ol.gp rfl (ld (v := .slice a.iA a.ins.length a.iC) one_L_api_Ins (Rd.blk (i := 1) rfl rfl)) ?_
  refine Ol.gp rfl (fdl fd_api_Block_0) ?_
  refine Ol.gp rfl (ld (v := .slice b.iA b.ins.length b.iC) one_L_api_Ins (Rd.blk (i := 0) rfl rfl)) ?_
  refine Ol.gs rfl (cl (v := .bool true) en_kit_KeptRow (fun M w' hh => kit_KeptRow_ct hins ((ha.now hh).ins) ha.ic (ha.now hh).args ha.ac ((hr.now hh).ins) ((hr.now hh).args) hlen hal)) ?_
  refine Ol.p (pkTb rfl) ?_
  refine Ol.p asb ?_
  refine Ol.nil ?_
  exact Cd.ret ⟨.bool true, ret1 rfl rfl, [], Keep.nil, rfl, rfl⟩
end
section
set_option maxHeartbeats 2000000 in
theorem kit_KeptBlocks_ct {w : World} {A B : Option Addr} {c d : Nat} {l' l : List RBlk} (hb : l'.map RBlk.bare = l.map RBlk.bare) (hro : Reads w w.heap.size 5 A (l'.length + 12) ((l' ++ mkBL 12).flatMap RBlk.cells)) (hc : l'.length + 12 ≤ c) (hra : ∀ x ∈ l', BlkL w w.heap.size x) (hl : Reads w w.heap.size 5 B l.length (l.flatMap RBlk.cells)) (hla : ∀ x ∈ l, BlkR w w.heap.size x) (hlen : l.length < 2 ^ 36) (hil : ∀ x ∈ l, x.ins.length < 2 ^ 36) (hal : ∀ x ∈ l, ∀ i ∈ x.ins, i.args.length < 2 ^ 40) : Ct Try.prog 89 #[.slice A l'.length c, .slice B l.length d] w (Is (.bool true)) := by
  have hll : l'.length = l.length := by
    have := congrArg List.length hb
    simpa using this
  rw [hll] at hro hc
  refine Ct.mk Try.func89 rfl rfl ?_
  refine Cd.seq ?_
  refine Cd.region ?_
  refine Ol.p asb ?_
  refine Ol.nil ?_
  refine Cd.seq ?_
  refine Cd.seq ?_
  refine Cd.region ?_
  refine Ol.p mvs ?_
  refine Ol.p (lens sl_L_api_Block) ?_
  refine Ol.p mvs ?_
  refine Ol.p (lens sl_L_api_Block) ?_
  refine Ol.p nei ?_
  refine Ol.nil ?_
  refine Cd.cond rfl (fun h => ?_) (fun _ => ?_)
  · exfalso
    have h : (!decide ((l'.length : Int) = (l.length : Int))) = true := h
    rw [decide_eq_true (by omega)] at h
    cases h
  refine Cd.skip ?_
  refine Cd.seq ?_
  refine Cd.region ?_
  refine Ol.p mvs ?_
  refine Ol.p mvs ?_
  refine Ol.p (lens sl_L_api_Block) ?_
  refine Ol.p addi ?_
  refine Ol.p (slh (A := A) (c := c) (h := l.length + 12) sl_L_api_Block (by omega) (hy := congrArg (Value.int .i64) (show (l.length : Int) + 12 = ((l.length + 12 : Nat) : Int) by omega))) ?_
  refine Ol.p ass ?_
  refine Ol.nil ?_
  refine Cd.seq ?_
  refine Cd.seq ?_
  refine Cd.region ?_
  refine Ol.p asi ?_
  refine Ol.nil ?_
  refine Cd.block ?_
  refine Cd.loop (fun m σ L => ∃ k, m = l.length + 12 - k ∧ k ≤ l.length + 12 ∧ Has σ [(1, .slice B l.length d), (5, .slice A (l.length + 12) c), (6, .int .i64 k)] ∧ [] = L) (n := l.length + 12) ⟨0, rfl, Nat.zero_le _, ⟨rfl, rfl, rfl, trivial⟩, rfl⟩ ?_
  rintro _ σ L ⟨k, rfl, hk, hs, rfl⟩
  refine Cd.has hs ?_
  clear hs
  refine Cd.seq ?_
  refine Cd.seq ?_
  refine Cd.region ?_
  refine Ol.p mvi ?_
  refine Ol.p mvs ?_
  refine Ol.p (lens sl_L_api_Block) ?_
  refine Ol.p lsi ?_
  refine Ol.nil ?_
  refine Cd.cond rfl (fun h => ?_) (fun h => ?_)
  · have hlt : k < l.length + 12 := by
      have h : decide ((k : Int) < ((l.length + 12 : Nat) : Int)) = true := h
      have := of_decide_eq_true h
      omega
    refine Cd.skip ?_
    refine Cd.seq ?_
    refine Cd.block ?_
    refine Cd.mid (fun σ' L' => Has σ' [(1, .slice B l.length d), (5, .slice A (l.length + 12) c), (6, .int .i64 k), (57, .bool false)] ∧ [] = L') ?_ ?_
    · cases q4 : decide ((k : Int) < (l.length : Int)) with
      | true =>
        have hkl : k < l.length := by have := of_decide_eq_true q4; omega
        have q20 : decide ((l.length : Int) ≤ (k : Int)) = false := decide_eq_false (by omega)
        obtain ⟨x, hx⟩ : ∃ x, l'[k]? = some x := ⟨_, List.getElem?_eq_getElem (by omega)⟩
        obtain ⟨y, hy⟩ : ∃ y, l[k]? = some y := ⟨_, List.getElem?_eq_getElem hkl⟩
        have hxm := List.mem_of_getElem? hx
        have hym := List.mem_of_getElem? hy
        have hxy : x.bare = y.bare := by
          have := congrArg (fun z : List RBlk => z[k]?) hb
          simp only [List.getElem?_map, hx, hy, Option.map_some] at this
          exact Option.some.inj this
        refine Cd.draw mixed 35 (exIs (fun opNo => match opNo with | 13 => some (.bool true) | _ => none)) (fun _ => []) (by kernel_rfl) exIs_in (fun u hu => ?_)
        refine Wk.p mvi ?_
        refine Wk.p mvs ?_
        refine Wk.p (lens sl_L_api_Block) ?_
        refine Wk.p lsi ?_
        refine Wk.p mvb ?_
        refine Wk.gp q4 mvs ?_
        refine Wk.gp q4 mvi ?_
        refine Wk.gp q4 (ixn (ix := k) sl_L_api_Block (Som.slc hro (by omega))) ?_
        refine Wk.gp q4 (lds (es := x.cells) ag_api_Block hro x.len (fun q u hu => blk_cell (mk_old hx) hu)) ?_
        refine Wk.gp q4 mvs ?_
        refine Wk.gp q4 mvi ?_
        refine Wk.gp q4 (ixn (ix := k) sl_L_api_Block (Som.slc hl (by omega))) ?_
        refine Wk.gp q4 (lds (es := y.cells) ag_api_Block hl y.len (fun q u hu => blk_cell hy hu)) ?_
        refine Wk.gdk hu q4 (sp_call (vs := [x.val, y.val]) en_kit_KeptBlock (fun M w' hh => kit_KeptBlock_ct hxy ((hra x hxm).now hh) ((hla y hym).now hh) (hil y hym) (hal y hym))) ?_
        refine Wk.gp q4 noti ?_
        refine Wk.p (pkTb q4) ?_
        refine Wk.p mvb ?_
        refine Wk.gp rfl mvi ?_
        refine Wk.gp rfl mvs ?_
        refine Wk.gp rfl (lens sl_L_api_Block) ?_
        refine Wk.gp rfl gei ?_
        refine Wk.gp rfl mvb ?_
        refine Wk.gn q20 ?_
        refine Wk.gn q20 ?_
        refine Wk.gn q20 ?_
        refine Wk.gn q20 ?_
        refine Wk.gn q20 ?_
        refine Wk.gn q20 ?_
        refine Wk.gn q20 ?_
        refine Wk.gn q20 ?_
        refine Wk.gn q20 ?_
        refine Wk.gn q20 ?_
        refine Wk.gn q20 ?_
        refine Wk.gp rfl (pkFb q20) ?_
        refine Wk.p (pkFb rfl) ?_
        refine Wk.nil ?_
        rw [needs_exIs hu rfl]
        refine Ol.nil ?_
        exact ⟨⟨rfl, rfl, rfl, rfl, trivial⟩, rfl⟩
      | false =>
        have hkl : l.length ≤ k := by have := of_decide_eq_false q4; omega
        have q20 : decide ((l.length : Int) ≤ (k : Int)) = true := decide_eq_true (by omega)
        obtain ⟨j, hj⟩ : ∃ j, k = l.length + j := ⟨k - l.length, by omega⟩
        have hjv : ((k : Int) - (l.length : Int)) = (j : Int) := by omega
        have hz := mk_at (l := l') (F := MB 1) (j := j) (by omega)
        rw [hll, ← hj] at hz
        have hmk : ∀ w', Ct Try.prog 137 #[.int .i64 1, .int .i64 ((k : Int) - (l.length : Int))] w' (Is (MB 1 j).val) := fun w' => by
          rw [hjv]
          exact kit_markBlock_ct (k := 1) (by decide) (by omega)
        have hSM : decide ((MB 1 j).bare = (MB 1 j).bare) = true := by simp
        have hMB : ∀ w', BlkR w' w'.heap.size (MB 1 j) := fun w' => ⟨reads_none_, (fun i hi => by simp [MB] at hi), (fun i hi => by simp [MB] at hi), by simp [MB]⟩
        have hsm : ∀ w', Ct Try.prog 139 #[(MB 1 j).val, (MB 1 j).val] w' (Is (.bool true)) := fun w' => hSM ▸ kit_SameBlock_ct (hMB w') (hMB w')
        refine Cd.draw mixed 35 (exIs (fun opNo => match opNo with | 30 => some ((MB 1 j).val) | 31 => some (.bool true) | _ => none)) (fun _ => []) (by kernel_rfl) exIs_in (fun u hu => ?_)
        refine Wk.p mvi ?_
        refine Wk.p mvs ?_
        refine Wk.p (lens sl_L_api_Block) ?_
        refine Wk.p lsi ?_
        refine Wk.p mvb ?_
        refine Wk.gn q4 ?_
        refine Wk.gn q4 ?_
        refine Wk.gn q4 ?_
        refine Wk.gn q4 ?_
        refine Wk.gn q4 ?_
        refine Wk.gn q4 ?_
        refine Wk.gn q4 ?_
        refine Wk.gn q4 ?_
        refine Wk.gn q4 ?_
        refine Wk.gn q4 ?_
        refine Wk.p (pkFb q4) ?_
        refine Wk.p mvb ?_
        refine Wk.gp rfl mvi ?_
        refine Wk.gp rfl mvs ?_
        refine Wk.gp rfl (lens sl_L_api_Block) ?_
        refine Wk.gp rfl gei ?_
        refine Wk.gp rfl mvb ?_
        refine Wk.gp q20 mvs ?_
        refine Wk.gp q20 mvi ?_
        refine Wk.gp q20 (ixn (ix := k) sl_L_api_Block (Som.slc hro (by omega))) ?_
        refine Wk.gp q20 (lds (es := (MB 1 j).cells) ag_api_Block hro (MB 1 j).len (fun q u hu => blk_cell (l := l' ++ mkBL 12) hz hu)) ?_
        refine Wk.gp q20 mvi ?_
        refine Wk.gp q20 mvs ?_
        refine Wk.gp q20 (lens sl_L_api_Block) ?_
        refine Wk.gp q20 subi ?_
        refine Wk.gdk hu q20 (sp_call (vs := [.int .i64 1, .int .i64 ((k : Int) - (l.length : Int))]) en_kit_markBlock (fun M w' hh => hmk w')) ?_
        refine Wk.gdk hu q20 (sp_call (vs := [(MB 1 j).val, (MB 1 j).val]) en_kit_SameBlock (fun M w' hh => hsm w')) ?_
        refine Wk.gp q20 noti ?_
        refine Wk.gp rfl (pkTb q20) ?_
        refine Wk.p (pkFb rfl) ?_
        refine Wk.nil ?_
        rw [needs_exIs hu rfl]
        refine Ol.nil ?_
        exact ⟨⟨rfl, rfl, rfl, rfl, trivial⟩, rfl⟩
    rintro σ' _ ⟨hs', rfl⟩
    refine Cd.has hs' ?_
    clear hs'
    refine Cd.cond rfl (fun h => by cases h) (fun _ => ?_)
    refine Cd.skip ?_
    refine Cd.region ?_
    refine Ol.p mvi ?_
    refine Ol.p addi ?_
    refine Ol.p asi ?_
    refine Ol.nil ?_
    exact ⟨l.length + 12 - (k + 1), by omega, k + 1, rfl, by omega, ⟨rfl, rfl, rfl, trivial⟩, rfl⟩
  refine Cd.exit (id := 0) ?_
  refine Cd.seq ?_
  refine Cd.region ?_
  refine Ol.p asb ?_
  refine Ol.nil ?_
  exact Cd.ret ⟨.bool true, ret1 rfl rfl, [], Keep.nil, rfl, rfl⟩
end
section
theorem kit_KeptFunc_ct {w : World} {g f : RFun} (hb : g.bare = f.bare) (hg : LentAt w w.heap.size g) (hf : FunAt w w.heap.size f) (hgf : FitC g) (hff : FitC f) (hp : f.params.length < 2 ^ 40) (hl : BlksIn w w.heap.size f.bA f.blocks) (hal : ∀ b ∈ f.blocks, ∀ i ∈ b.ins, i.args.length < 2 ^ 40) : Ct Try.prog 40 #[g.val, f.val] w (Is (.bool true)) := by
  have hpar : g.params = f.params := (congrArg RFun.params hb : g.bare.params = f.bare.params)
  have hblk : g.blocks.map RBlk.bare = f.blocks.map RBlk.bare := (congrArg RFun.blocks hb : g.bare.blocks = f.bare.blocks)
  have hS : decide (g.bare = f.bare) = true := decide_eq_true hb
  have hgp := hg.params
  have hgc := hg.pc
  rw [hpar] at hgp hgc
  have hfr : ∀ x ∈ f.blocks, BlkR w w.heap.size x := fun x hx => ⟨hf.ins x hx, hf.args x hx, fun i hi => by have := hal x hx i hi; omega, by have := hl.ilen x hx; omega⟩
  refine Ct.mk Try.func40 rfl rfl ?_
  refine Cd.seq ?_
  refine Cd.region ?_
  refine Ol.x bxg ?_
  rintro _ _ ⟨g2, rfl, rfl⟩
  refine Ol.x bxg ?_
  rintro _ _ ⟨g3, rfl, rfl⟩
  refine Ol.p asb ?_
  refine Ol.nil ?_
  refine Cd.seq ?_
  refine Cd.region ?_
  refine Ol.p (ldw (cs := g.cells.toArray) ag_api_Func (i := 1) rfl rfl) ?_
  refine Ol.p (ldw (cs := f.cells.toArray) ag_api_Func (i := 0) rfl rfl) ?_
  refine Ol.s (cl (v := .bool true) en_kit_SameFunc (fun M w' hh => hS ▸ kit_SameFunc_ct (hg.fun_.now hh) (hf.now hh) hgf hff)) ?_
  refine Ol.p mvb ?_
  refine Ol.gp rfl (fdl fd_api_Func_0) ?_
  refine Ol.gp rfl (ld (v := .slice g.pA f.params.length g.pC) one_L_int (Rd.blk (i := 1) rfl (show g.cells.toArray[0 + 0]? = some (.slice g.pA f.params.length g.pC) from by rw [← hpar]; rfl))) ?_
  refine Ol.gp rfl (fdl fd_api_Func_0) ?_
  refine Ol.gp rfl (ld (v := .slice f.pA f.params.length f.pC) one_L_int (Rd.blk (i := 0) rfl rfl)) ?_
  refine Ol.gs rfl (cl (v := .bool true) en_kit_KeptInts (fun M w' hh => kit_KeptInts_ct (l := f.params) (hgp.now hh) hgc (hf.params.now hh) hp)) ?_
  refine Ol.p (pkTb rfl) ?_
  refine Ol.p mvb ?_
  refine Ol.gp rfl (fdl fd_api_Func_1) ?_
  refine Ol.gp rfl (ld (v := .slice g.bA g.blocks.length g.bC) one_L_api_Block (Rd.blk (i := 1) rfl rfl)) ?_
  refine Ol.gp rfl (fdl fd_api_Func_1) ?_
  refine Ol.gp rfl (ld (v := .slice f.bA f.blocks.length f.bC) one_L_api_Block (Rd.blk (i := 0) rfl rfl)) ?_
  refine Ol.gs rfl (cl (v := .bool true) en_kit_KeptBlocks (fun M w' hh => kit_KeptBlocks_ct hblk (hg.blocks.now hh) hg.bc (fun x hx => (hg.blk x hx).now hh) (hf.blocks.now hh) (fun x hx => (hfr x hx).now hh) hl.len hl.ilen hal)) ?_
  refine Ol.p (pkTb rfl) ?_
  refine Ol.p asb ?_
  refine Ol.nil ?_
  exact Cd.ret ⟨.bool true, ret1 rfl rfl, [], Keep.nil, rfl, rfl⟩
end
end Go.Proofs.Ytcojedoejpcolaa

/- The law 03: IrTells, walked. -/
namespace Go.Proofs.Ytcojedoejpcolaa
set_option linter.unusedVariables false
open Go Go.RowKit
set_option maxRecDepth 100000

theorem z8_arg : ∀ {l : List RIns} {i : RIns}, i ∈ l → i.args.length ≤ argSum l
  | [], _, h => by cases h
  | a :: l, i, h => by
    have e : argSum (a :: l) = a.args.length + argSum l := by simp [argSum]
    rcases List.mem_cons.1 h with rfl | h
    · omega
    · have := z8_arg h; omega
theorem z8_blk : ∀ {l : List RBlk} {b : RBlk}, b ∈ l → bsz b ≤ blocksSz l
  | [], _, h => by cases h
  | a :: l, b, h => by
    have e : blocksSz (a :: l) = bsz a + blocksSz l := by simp [blocksSz]
    rcases List.mem_cons.1 h with rfl | h
    · omega
    · have := z8_blk h; omega
theorem z8_len : ∀ l : List RBlk, l.length ≤ blocksSz l
  | [] => by simp
  | a :: l => by
    have e : blocksSz (a :: l) = bsz a + blocksSz l := by simp [blocksSz]
    have := z8_len l
    have h2 : 1 ≤ bsz a := by unfold bsz; omega
    simp only [List.length_cons]; omega
theorem z8_a {f : RFun} (h : f.sz ≤ 700) : ∀ b ∈ f.blocks, ∀ i ∈ b.ins, i.args.length < 2 ^ 40 := fun b hb i hi => by
  have h0 : f.params.length + blocksSz f.blocks ≤ 700 := h
  have := z8_blk hb
  have h3 := z8_arg hi
  unfold bsz at this; omega
theorem z8_in {w : World} {f : RFun} (hf : FunAt w w.heap.size f) (h : f.sz ≤ 700) : BlksIn w w.heap.size f.bA f.blocks := by
  have h0 : f.params.length + blocksSz f.blocks ≤ 700 := h
  have h1 := z8_len f.blocks
  refine ⟨hf.blocks, hf.ins, hf.args, by omega, fun b hb => ?_, fun b hb i hi => ?_⟩
  · have := z8_blk hb
    unfold bsz at this; omega
  · have := z8_a h b hb i hi
    omega
section
set_option maxHeartbeats 4000000 in
theorem law03_IrTells_ct {w : World} {f : RFun} (hf : FunAt w w.heap.size f) (hfit : Fit f) : Ct Try.prog 5 #[f.val] w (Is (.bool true)) := by
  refine Ct.mk Try.func5 rfl rfl ?_
  refine Cd.seq ?_
  refine Cd.region ?_
  refine Ol.x bxg ?_
  rintro _ _ ⟨g1, rfl, rfl⟩
  refine Ol.p asb ?_
  refine Ol.nil ?_
  refine Cd.seq ?_
  refine Cd.seq ?_
  refine Cd.region ?_
  refine Ol.p (ldw (cs := f.cells.toArray) ag_api_Func (i := 0) rfl rfl) ?_
  refine Ol.x (sp_call (vs := [f.val, .int .i64 700]) en_kit_FuncOf (fun M w' hh => kit_FuncOf_ct (hf.now hh) hfit (most := 700) (by decide))) ?_
  rintro _ _ ⟨_, rfl, N, rfl, hN1, hN2, rfl⟩
  refine Ol.p gti ?_
  refine Ol.nil ?_
  refine Cd.cond rfl (fun h => ?_) (fun h => ?_)
  · refine Cd.seq ?_
    refine Cd.region ?_
    refine Ol.s (cl en_law03_awake (fun M w' hh => law03_awake_ct)) ?_
    refine Ol.p asb ?_
    refine Ol.nil ?_
    exact Cd.ret ⟨.bool true, ret1 rfl rfl, [], Keep.nil, rfl, rfl⟩
  have hsz : f.sz ≤ 700 := by
    have h : decide ((700 : Int) < (N : Int)) = false := h
    have := of_decide_eq_false h
    have h2 := hN1 (by omega)
    omega
  have hpl : f.params.length < 2 ^ 40 := by
    have h0 : f.params.length + blocksSz f.blocks ≤ 700 := hsz
    omega
  clear h hN1 hN2
  refine Cd.skip ?_
  refine Cd.seq ?_
  refine Cd.region ?_
  refine Ol.p (ldw (cs := f.cells.toArray) ag_api_Func (i := 0) rfl rfl) ?_
  refine Ol.x (sp_call (vs := [f.val]) en_kit_LentFunc (fun M w' hh => kit_LentFunc_ct (hf.now hh) hpl ((z8_in hf hsz).now hh) (z8_a hsz))) ?_
  rintro _ _ ⟨X, rfl, g, hb, rfl, hX⟩
  have hfc : FitC g := FitC.same hfit.c hb
  refine Ol.keep (L' := blk g1 (.cells f.cells.toArray 43) :: funLent g) ⟨[], by rw [List.append_nil]; exact List.perm_append_comm.trans (hX.cons _)⟩ ?_
  refine Ol.x (alc zr_api_Func) ?_
  rintro _ _ ⟨g3, rfl, rfl⟩
  refine Ol.s (stw (vs := g.cells.toArray) sz_api_Func rfl (by intro u hu; simp [RFun.cells] at hu; rcases hu with rfl | rfl <;> rfl) (i := 0) rfl rfl) ?_
  refine Ol.nil ?_
  have hsub : ∀ r ∈ funLent g, r ∈ blk g3 (.cells g.cells.toArray 43) :: blk g1 (.cells f.cells.toArray 43) :: funLent g := fun r hr => List.mem_cons_of_mem _ (List.mem_cons_of_mem _ hr)
  have e1 : mostF g = mostF f := by rw [← mostF_bare g, hb, mostF_bare]
  have e2 : varsF g = varsF f := by rw [← varsF_bare g, hb, varsF_bare]
  have e3 : sizeF g = sizeF f := by
    rw [← sizeF_bare g, hb, sizeF_bare]
  have e4 : rightF g = rightF f := rightF_same hb
  obtain ⟨vl, hvl, hvn⟩ : ∃ vl : List Int, intsN (varsF f) = ints vl ∧ (varsF f).length = vl.length := ⟨(varsF f).map fun (n : Nat) => (n : Int), by simp [ints, intsN], by simp⟩
  have hvb : vl.length ≤ 200 := by
    rw [← hvn]
    unfold varsF
    split
    · exact varsTo_len _ _
    · exact Nat.zero_le _
  obtain ⟨ma, hma⟩ : ∃ ma, ma = ((mostF f).1 : Int) := ⟨_, rfl⟩
  obtain ⟨mb, hmb⟩ : ∃ mb, mb = ((mostF f).2 : Int) := ⟨_, rfl⟩
  have c1 : ∀ w', FunAt w' w'.heap.size g → Fit g → Ct Try.prog 33 #[g.val] w' (Is (.tuple #[.int .i64 ma, .int .i64 mb])) := fun w' h1 h2 => by
    have q := ir_Most_ct h1 h2
    rw [e1, ← hma, ← hmb] at q
    exact q
  have c2 : ∀ w', FunAt w' w'.heap.size f → Ct Try.prog 34 #[f.val] w' (Is (.tuple #[.int .i64 ma, .int .i64 mb])) := fun w' h1 => by
    have q := ref03_Most_ct h1 hfit
    rw [← hma, ← hmb] at q
    exact q
  have c3 : ∀ w', FunAt w' w'.heap.size g → Fit g → Ct Try.prog 36 #[g.val] w' (NewL 3 1 vl.length (ints vl)) := fun w' h1 h2 => by
    have q := ir_Vars_ct h1 h2
    rw [e2, hvl, hvn] at q
    exact q
  have c4 : ∀ w', FunAt w' w'.heap.size f → Ct Try.prog 37 #[f.val] w' (NewL 3 1 vl.length (ints vl)) := fun w' h1 => by
    have q := ref03_Vars_ct h1 hfit
    rw [hvl, hvn] at q
    exact q
  obtain ⟨rt, hrt⟩ : ∃ rt, rt = rightF f := ⟨_, rfl⟩
  obtain ⟨sz, hsz2⟩ : ∃ sz, sz = (sizeF f : Int) := ⟨_, rfl⟩
  have c5 : ∀ w', FunAt w' w'.heap.size g → Fit g → Ct Try.prog 30 #[g.val] w' (Is (.int .i64 rt)) := fun w' h1 h2 => by
    rw [hrt, ← e4]; exact ir_Right_ct h1 h2
  have c6 : ∀ w', FunAt w' w'.heap.size f → Ct Try.prog 35 #[f.val] w' (Is (.int .i64 rt)) := fun w' h1 => by
    rw [hrt]; exact ref03_Right_ct h1 hfit
  have c7 : ∀ w', FunAt w' w'.heap.size g → Fit g → Ct Try.prog 38 #[g.val] w' (Is (.int .i64 sz)) := fun w' h1 h2 => by
    rw [hsz2, ← e3]; exact ir_Size_ct h1 h2
  have c8 : ∀ w', FunAt w' w'.heap.size f → Ct Try.prog 39 #[f.val] w' (Is (.int .i64 sz)) := fun w' h1 => by
    rw [hsz2]; exact ref03_Size_ct h1 hfit
  refine Cd.seq ?_
  refine Cd.region ?_
  refine Ol.p (ldw (cs := g.cells.toArray) ag_api_Func (i := 0) rfl rfl) ?_
  refine Ol.s (cl (v := .tuple #[.int .i64 ma, .int .i64 mb]) en_ir_Most (fun M w' hh => c1 w' (LentAt.own hh hsub).fun_ ((LentAt.own hh hsub).fit hfc))) ?_
  refine Ol.p mvt ?_
  refine Ol.p extv ?_
  refine Ol.p extv ?_
  refine Ol.p asi ?_
  refine Ol.p asi ?_
  refine Ol.nil ?_
  refine Cd.seq ?_
  refine Cd.region ?_
  refine Ol.p (ldw (cs := f.cells.toArray) ag_api_Func (i := 1) rfl rfl) ?_
  refine Ol.s (cl (v := .tuple #[.int .i64 ma, .int .i64 mb]) en_ref03_Most (fun M w' hh => c2 w' (hf.now hh))) ?_
  refine Ol.p mvt ?_
  refine Ol.p extv ?_
  refine Ol.p extv ?_
  refine Ol.p asi ?_
  refine Ol.p asi ?_
  refine Ol.nil ?_
  have q5 : decide (rt = rt) = true := by simp
  have q12 : decide (vl = vl) = true := by simp
  have q17 : decide (ma = ma) = true := by simp
  have q22 : decide (mb = mb) = true := by simp
  have q29 : decide (sz = sz) = true := by simp
  refine Cd.seq ?_
  refine Cd.draw mixed 38 (fun opNo => match opNo with | 1 => some (Is (.int .i64 rt)) | 3 => some (Is (.int .i64 rt)) | 7 => some (NewL 3 1 vl.length (ints vl)) | 9 => some (NewL 3 1 vl.length (ints vl)) | 10 => some (Is (.bool (decide (vl = vl)))) | 24 => some (Is (.int .i64 sz)) | 26 => some (Is (.int .i64 sz)) | 32 => some (Is (.bool true)) | 35 => some (Is (.bool true)) | _ => none) (fun opNo => match opNo with | 10 => [7, 9] | _ => []) (by kernel_rfl) (by intro q V h; split at h <;> cases h; exact ⟨_, [], rfl, rfl⟩; exact ⟨_, [], rfl, rfl⟩; exact ⟨_, _, none, 0, rfl, rfl⟩; exact ⟨_, _, none, 0, rfl, rfl⟩; exact ⟨_, [], rfl, rfl⟩; exact ⟨_, [], rfl, rfl⟩; exact ⟨_, [], rfl, rfl⟩; exact ⟨_, [], rfl, rfl⟩; exact ⟨_, [], rfl, rfl⟩) (fun u hu => ?_)
  refine Wk.p (ldw (cs := g.cells.toArray) ag_api_Func (i := 0) rfl rfl) ?_
  refine Wk.x (V := Is (.int .i64 rt)) hu (sp_call (vs := [g.val]) en_ir_Right (fun M w' hh => c5 w' (LentAt.own hh hsub).fun_ ((LentAt.own hh hsub).fit hfc))) ?_
  rintro _ _ hu1 ⟨rfl, rfl⟩
  refine Wk.p (ldw (cs := f.cells.toArray) ag_api_Func (i := 1) rfl rfl) ?_
  refine Wk.x (V := Is (.int .i64 rt)) hu (sp_call (vs := [f.val]) en_ref03_Right (fun M w' hh => c6 w' (hf.now hh))) ?_
  rintro _ _ hu3 ⟨rfl, rfl⟩
  refine Wk.p eqi ?_
  refine Wk.p mvb ?_
  refine Wk.gp q5 (ldw (cs := g.cells.toArray) ag_api_Func (i := 0) rfl rfl) ?_
  refine Wk.gx (V := NewL 3 1 vl.length (ints vl)) hu q5 (sp_call (vs := [g.val]) en_ir_Vars (fun M w' hh => c3 w' (LentAt.own hh hsub).fun_ ((LentAt.own hh hsub).fit hfc))) ?_
  rintro _ _ hu7 ⟨A31, c31, rfl, rfl⟩
  refine Wk.gp q5 (ldw (cs := f.cells.toArray) ag_api_Func (i := 1) rfl rfl) ?_
  refine Wk.gx (V := NewL 3 1 vl.length (ints vl)) hu q5 (sp_call (vs := [f.val]) en_ref03_Vars (fun M w' hh => c4 w' (hf.now hh))) ?_
  rintro _ _ hu9 ⟨A33, c33, rfl, rfl⟩
  refine Wk.gxn (V := Is (.bool (decide (vl = vl)))) hu q5 (l := [7, 9]) rfl (by simp) (by rw [needs_cons hu7, needs_cons hu9, needs_none]; exact (sp_call en_kit_SameInts (fun M w' hh => kit_SameInts_ct (a := vl) (b := vl) (Reads.row hh (i := 0) rfl) (Reads.row hh (i := 1) rfl) (by omega) (by omega)))) ?_
  rintro _ _ hu10 ⟨rfl, rfl⟩
  refine Wk.p (pkTb q5) ?_
  refine Wk.p mvb ?_
  refine Wk.gp q12 mvi ?_
  refine Wk.gp q12 mvi ?_
  refine Wk.gp q12 eqi ?_
  refine Wk.p (pkTb q12) ?_
  refine Wk.p mvb ?_
  refine Wk.gp q17 mvi ?_
  refine Wk.gp q17 mvi ?_
  refine Wk.gp q17 eqi ?_
  refine Wk.p (pkTb q17) ?_
  refine Wk.p mvb ?_
  refine Wk.gp q22 (ldw (cs := g.cells.toArray) ag_api_Func (i := 0) rfl rfl) ?_
  refine Wk.gx (V := Is (.int .i64 sz)) hu q22 (sp_call (vs := [g.val]) en_ir_Size (fun M w' hh => c7 w' (LentAt.own hh hsub).fun_ ((LentAt.own hh hsub).fit hfc))) ?_
  rintro _ _ hu24 ⟨rfl, rfl⟩
  refine Wk.gp q22 (ldw (cs := f.cells.toArray) ag_api_Func (i := 1) rfl rfl) ?_
  refine Wk.gx (V := Is (.int .i64 sz)) hu q22 (sp_call (vs := [f.val]) en_ref03_Size (fun M w' hh => c8 w' (hf.now hh))) ?_
  rintro _ _ hu26 ⟨rfl, rfl⟩
  refine Wk.gp q22 eqi ?_
  refine Wk.p (pkTb q22) ?_
  refine Wk.p mvb ?_
  refine Wk.gp q29 (ldw (cs := g.cells.toArray) ag_api_Func (i := 0) rfl rfl) ?_
  refine Wk.gp q29 (ldw (cs := f.cells.toArray) ag_api_Func (i := 1) rfl rfl) ?_
  refine Wk.gx (V := Is (.bool true)) hu q29 (sp_call (vs := [g.val, f.val]) en_kit_KeptFunc (fun M w' hh => kit_KeptFunc_ct hb (LentAt.own hh hsub) (hf.now hh) hfc hfit.c hpl ((z8_in hf hsz).now hh) (z8_a hsz))) ?_
  rintro _ _ hu32 ⟨rfl, rfl⟩
  refine Wk.p (pkTb q29) ?_
  refine Wk.p mvb ?_
  refine Wk.gx (V := Is (.bool true)) hu rfl (sp_call en_law03_awake (fun M w' hh => law03_awake_ct)) ?_
  rintro _ _ hu35 ⟨rfl, rfl⟩
  refine Wk.p (pkTb rfl) ?_
  refine Wk.p asb ?_
  refine Wk.nil ?_
  rw [needs_cons hu35, needs_cons hu32, needs_cons hu26, needs_cons hu24, needs_cons hu10, needs_cons hu9, needs_cons hu7, needs_cons hu3, needs_cons hu1, needs_none]
  refine Ol.nil ?_
  exact Cd.ret ⟨.bool true, ret1 rfl rfl, [], Keep.nil, rfl, rfl⟩
end
end Go.Proofs.Ytcojedoejpcolaa

/- Lists of structs that came in, opened. -/
namespace Go.Proofs.Ytcojedoejpcolaa
set_option linter.unusedVariables false
open Go Go.ChangeShapes Go.WideShapes Go.ChangeAt Go.RowKit
set_option maxRecDepth 100000

section
variable {H : Type} {enc : TypeId × Value → H} {P : Program} {w : World}
/-- What came in is not endless. -/
def Lean_ (P : Program) (t : TypeId) (d : DataW H) : Prop := ∀ n ∈ d.weights P t, n ≤ reachBytes
theorem weightsAll_mem {P : Program} {e : TypeId} {d : DataW H} {n : Nat} (hn : n ∈ d.weights P e) : ∀ {l : List (DataW H)}, d ∈ l → n ∈ DataW.weightsAll P e l
  | x :: l, h => by
    simp only [DataW.weightsAll, List.mem_append]
    rcases List.mem_cons.1 h with rfl | h
    · exact .inl hn
    · exact .inr (weightsAll_mem hn h)
theorem lean_slice {t e : TypeId} {a b : List (DataW H)} (ht : P.underlying t = some (.slice e)) (h : Lean_ P t (.slice a b)) : (a.length + b.length) * P.bytesOf e ≤ reachBytes ∧ ∀ d ∈ a, Lean_ P e d := by
  unfold Lean_ at h
  simp only [DataW.weights, ht, List.mem_cons, List.mem_append] at h
  exact ⟨h _ (.inl rfl), fun d hd n hn => h n (.inr (.inl (weightsAll_mem hn hd)))⟩
theorem open_list {α : Type} {cf : α → List Value} {Good : α → Prop} {t e : TypeId} {c fuel : Nat} {cs : List Value} {x : DataW H × List MemPlace} (ht : P.underlying t = some (.slice e)) (hc : P.cellsOf e = c) (hc0 : 0 < c) (hby : 0 < P.bytesOf e)
    (hcf : ∀ a, (cf a).length = c)
    (hel : ∀ n cs y, DataW.trod enc P w 0 (fun _ => true) true n e cs = some y → Lean_ P e y.1 → ∃ a : α, cs = cf a ∧ Good a)
    (h : DataW.trod enc P w 0 (fun _ => true) true fuel t cs = some x) (hw : Lean_ P t x.1) :
    ∃ (A : Option Addr) (cp : Nat) (l : List α), cs = [.slice A l.length cp] ∧ l.length ≤ cp ∧ Reads w w.heap.size c A l.length (l.flatMap cf) ∧ (∀ a ∈ l, Good a) ∧ l.length < 2 ^ 50 := by
  rcases Go.Deep.open_slice ht h with ⟨rfl, rfl⟩ | ⟨a, len, cap, m, n, D, Pl, rfl, _, hl, _, hm, rfl, hx⟩
  · exact ⟨none, 0, [], rfl, Nat.le_refl _, ⟨by simp, fun h => absurd h (by simp)⟩, by simp, by simp⟩
  · have hm : m = cap := by simpa using hm
    subst hm
    obtain ⟨hsz, hws⟩ := lean_slice ht hw
    have hsz : len < 2 ^ 50 := by
      simp only [List.length_map, List.length_range] at hsz
      have : reachBytes < 2 ^ 47 := reachBytes_lt
      have h2 : len + (m - len) ≤ (len + (m - len)) * P.bytesOf e := Nat.le_mul_of_pos_right _ hby
      omega
    have hex : ∀ i, i < len → ∃ v : α, Good v ∧ w.cells? 0 (a.add (i * c)) c = some (cf v) := fun i hi => by
      obtain ⟨cs', h1, h2⟩ := hx i (by omega)
      obtain ⟨v, rfl, hg⟩ := hel n cs' _ h2 (hws _ (List.mem_map.2 ⟨i, by simpa using hi, rfl⟩))
      rw [hc] at h1
      exact ⟨v, hg, h1⟩
    have hL : ∃ l : List α, l.length = len ∧ ∀ i v, l[i]? = some v → Good v ∧ w.cells? 0 (a.add (i * c)) c = some (cf v) := by
      clear hws hx hw h hm
      have : ∀ k, k ≤ len → ∃ l : List α, l.length = k ∧ ∀ i v, l[i]? = some v → Good v ∧ w.cells? 0 (a.add (i * c)) c = some (cf v) := by
        intro k
        induction k with
        | zero => exact fun _ => ⟨[], rfl, fun i v h => by simp at h⟩
        | succ k ih =>
          intro hk
          obtain ⟨l, h1, h2⟩ := ih (by omega)
          obtain ⟨v, hv⟩ := hex k (by omega)
          refine ⟨l ++ [v], by simp [h1], fun i u hu => ?_⟩
          rw [List.getElem?_append] at hu
          split at hu
          · exact h2 i u hu
          · rename_i hlt
            have hi : i - l.length = 0 := by
              have := (List.getElem?_eq_some_iff.1 hu).1
              simp at this; omega
            rw [hi] at hu
            simp at hu
            subst hu
            have : i = k := by omega
            rw [this]; exact hv
      exact this len (Nat.le_refl _)
    obtain ⟨l, hll, hg⟩ := hL
    have hcell : ∀ i v j, l[i]? = some v → j < c → w.cell? (a.add (i * c + j)) = (cf v)[j]? := fun i v j hv hj => by
      have := (World.cells?_some (hg i v hv).2).2.2 j hj
      rw [Go.Deep.add_add] at this
      exact this
    refine ⟨some a, m, l, by rw [hll], by omega, ⟨by rw [flat_len hcf], fun hn => ⟨a, rfl, ?_, fun j u hu => ?_⟩⟩, fun v hv => ?_, by omega⟩
    · obtain ⟨v, hv⟩ : ∃ v, l[0]? = some v := ⟨_, List.getElem?_eq_getElem hn⟩
      have h0 := hcell 0 v 0 hv hc0
      have : (cf v)[0]? = some ((cf v)[0]'(by rw [hcf]; exact hc0)) := List.getElem?_eq_getElem _
      rw [this] at h0
      have := World.block_lt_of_cell? w _ h0
      simpa [Addr.add] using this
    · have hjl : j < l.length * c := by
        have := (List.getElem?_eq_some_iff.1 hu).1
        rwa [flat_len hcf] at this
      have hd : j / c < l.length := Nat.div_lt_of_lt_mul (by rw [Nat.mul_comm]; exact hjl)
      have hr : j % c < c := Nat.mod_lt _ hc0
      have hj : j = j / c * c + j % c := by rw [Nat.mul_comm]; exact (Nat.div_add_mod j c).symm
      have hv : l[j / c]? = some l[j / c] := List.getElem?_eq_getElem hd
      rw [hj, flat_get hcf _ _ _ _ hv hr] at hu
      rw [hj, hcell _ _ _ hv hr]
      exact hu
    · obtain ⟨i, hi⟩ := List.mem_iff_getElem?.1 hv
      exact (hg i v hi).1
end
end Go.Proofs.Ytcojedoejpcolaa

/- A function of the program's that came in, opened. -/
namespace Go.Proofs.Ytcojedoejpcolaa
set_option linter.unusedVariables false
open Go Go.ChangeShapes Go.WideShapes Go.ChangeAt Go.RowKit
set_option maxRecDepth 100000

theorem lean_struct {H : Type} {P : Program} {t u : TypeId} {fs : Array Field} {parts : List (DataW H)} {d : DataW H} {j : Nat} (ht : P.underlying t = some (.struct fs)) (h : Lean_ P t (.agg parts)) (hu : (fs.toList.map (·.type))[j]? = some u) (hd : parts[j]? = some d) : Lean_ P u d := by
  unfold Lean_ at h ⊢
  simp only [DataW.weights, ht] at h
  exact fun n hn => h n (DataW.weights_mem_each hu hd n hn)
theorem list8 {α : Type} {l : List α} (h : l.length = 8) : ∃ a b c d e f g i, l = [a, b, c, d, e, f, g, i] := by
  match l, h with
  | [a, b, c, d, e, f, g, i], _ => exact ⟨a, b, c, d, e, f, g, i, rfl⟩
theorem i64_wf {n : Int} (h : (Lit.int .i64 n).wf = true) : -9223372036854775808 ≤ n ∧ n ≤ 9223372036854775807 := by
  have := i64_of_wf h
  unfold I64 at this; omega
theorem lean_each {H : Type} {P : Program} {ts : List TypeId} {ds : List (DataW H)} (h : (DataW.weightsEach P ts ds).all (· ≤ reachBytes) = true) {j : Nat} {t : TypeId} {d : DataW H} (ht : ts[j]? = some t) (hd : ds[j]? = some d) : Lean_ P t d := fun n hn => by
  simpa using List.all_eq_true.1 h n (DataW.weights_mem_each ht hd n hn)
section
theorem cells_Ins : Try.prog.cellsOf 25 = 8 := by kernel_rfl
theorem cells_Op : Try.prog.cellsOf 22 = 1 := by kernel_rfl
theorem cells_Lint : Try.prog.cellsOf 23 = 1 := by kernel_rfl
def IR (n : Int) : Prop := -9223372036854775808 ≤ n ∧ n ≤ 9223372036854775807
def GoodI (W : World) (i : RIns) : Prop := (∀ n ∈ [i.op, i.dst, i.a, i.b, i.imm, i.callee, i.many], IR n) ∧ i.args.length < 2 ^ 50 ∧ i.args.length ≤ i.aC ∧ (∀ n ∈ i.args, IR n) ∧ Reads W W.heap.size 1 i.aA i.args.length (ints i.args)
theorem flat_ints : ∀ l : List Int, l.flatMap (fun n : Int => [Value.int .i64 n]) = ints l
  | [] => rfl
  | a :: l => by rw [List.flatMap_cons, flat_ints l]; rfl
section
variable {H : Type} {enc : TypeId × Value → H} {W : World}
theorem open_intl {n : Nat} {cs : List Value} {y : DataW H × List MemPlace} (h : DataW.trod enc Try.prog W 0 (fun _ => true) true n 23 cs = some y) (hw : Lean_ Try.prog 23 y.1) :
    ∃ (A : Option Addr) (cp : Nat) (l : List Int), cs = [.slice A l.length cp] ∧ l.length ≤ cp ∧ Reads W W.heap.size 1 A l.length (ints l) ∧ (∀ a ∈ l, IR a) ∧ l.length < 2 ^ 50 := by
  obtain ⟨A, cp, l, h1, h2, h3, h4, h5⟩ := open_list (cf := fun n : Int => [.int .i64 n]) (Good := IR) Try.underlying23 cells_int (by decide) (by rw [bytes_int]; decide) (fun _ => rfl) (fun n cs y h _ => by
    obtain ⟨z, rfl, rfl, hw⟩ := DataW.trod_int Try.underlying3 h
    exact ⟨z, rfl, i64_wf hw⟩) h hw
  refine ⟨A, cp, l, h1, h2, ?_, h4, h5⟩
  rw [flat_ints] at h3
  exact h3
theorem open_ins {n : Nat} {cs : List Value} {y : DataW H × List MemPlace} (h : DataW.trod enc Try.prog W 0 (fun _ => true) true n 25 cs = some y) (hw : Lean_ Try.prog 25 y.1) : ∃ i : RIns, cs = i.cells ∧ GoodI W i := by
  obtain ⟨xs, m, _, rfl, hl, hlen, hf⟩ := DataW.trod_struct Try.underlying25 h
  simp only [List.size_toArray, List.length_cons, List.length_nil] at hlen
  obtain ⟨y0, y1, y2, y3, y4, y5, y6, y7, rfl⟩ := list8 hlen
  have hl8 : cs.length = 8 := hl.trans cells_Ins
  obtain ⟨c0, c1, c2, c3, c4, c5, c6, c7, rfl⟩ := list8 hl8
  have f0 : DataW.trod enc Try.prog W 0 (fun _ => true) true m 22 [c0] = some y0 := by
    have q := hf 0 _ rfl
    change DataW.trod enc Try.prog W 0 (fun _ => true) true m 22 (List.take (Try.prog.cellsOf 22) (List.drop 0 [c0, c1, c2, c3, c4, c5, c6, c7])) = some y0 at q
    rw [cells_Op] at q
    exact q
  have f1 : DataW.trod enc Try.prog W 0 (fun _ => true) true m 3 [c1] = some y1 := by
    have q := hf 1 _ rfl
    change DataW.trod enc Try.prog W 0 (fun _ => true) true m 3 (List.take (Try.prog.cellsOf 3) (List.drop 1 [c0, c1, c2, c3, c4, c5, c6, c7])) = some y1 at q
    rw [cells_int] at q
    exact q
  have f2 : DataW.trod enc Try.prog W 0 (fun _ => true) true m 3 [c2] = some y2 := by
    have q := hf 2 _ rfl
    change DataW.trod enc Try.prog W 0 (fun _ => true) true m 3 (List.take (Try.prog.cellsOf 3) (List.drop 2 [c0, c1, c2, c3, c4, c5, c6, c7])) = some y2 at q
    rw [cells_int] at q
    exact q
  have f3 : DataW.trod enc Try.prog W 0 (fun _ => true) true m 3 [c3] = some y3 := by
    have q := hf 3 _ rfl
    change DataW.trod enc Try.prog W 0 (fun _ => true) true m 3 (List.take (Try.prog.cellsOf 3) (List.drop 3 [c0, c1, c2, c3, c4, c5, c6, c7])) = some y3 at q
    rw [cells_int] at q
    exact q
  have f4 : DataW.trod enc Try.prog W 0 (fun _ => true) true m 3 [c4] = some y4 := by
    have q := hf 4 _ rfl
    change DataW.trod enc Try.prog W 0 (fun _ => true) true m 3 (List.take (Try.prog.cellsOf 3) (List.drop 4 [c0, c1, c2, c3, c4, c5, c6, c7])) = some y4 at q
    rw [cells_int] at q
    exact q
  have f5 : DataW.trod enc Try.prog W 0 (fun _ => true) true m 3 [c5] = some y5 := by
    have q := hf 5 _ rfl
    change DataW.trod enc Try.prog W 0 (fun _ => true) true m 3 (List.take (Try.prog.cellsOf 3) (List.drop 5 [c0, c1, c2, c3, c4, c5, c6, c7])) = some y5 at q
    rw [cells_int] at q
    exact q
  have f6 : DataW.trod enc Try.prog W 0 (fun _ => true) true m 23 [c6] = some y6 := by
    have q := hf 6 _ rfl
    change DataW.trod enc Try.prog W 0 (fun _ => true) true m 23 (List.take (Try.prog.cellsOf 23) (List.drop 6 [c0, c1, c2, c3, c4, c5, c6, c7])) = some y6 at q
    rw [cells_Lint] at q
    exact q
  have f7 : DataW.trod enc Try.prog W 0 (fun _ => true) true m 3 [c7] = some y7 := by
    have q := hf 7 _ rfl
    change DataW.trod enc Try.prog W 0 (fun _ => true) true m 3 (List.take (Try.prog.cellsOf 3) (List.drop 7 [c0, c1, c2, c3, c4, c5, c6, c7])) = some y7 at q
    rw [cells_int] at q
    exact q
  obtain ⟨z0, e0, _, w0⟩ := DataW.trod_int Try.underlying22 f0
  obtain ⟨z1, e1, _, w1⟩ := DataW.trod_int Try.underlying3 f1
  obtain ⟨z2, e2, _, w2⟩ := DataW.trod_int Try.underlying3 f2
  obtain ⟨z3, e3, _, w3⟩ := DataW.trod_int Try.underlying3 f3
  obtain ⟨z4, e4, _, w4⟩ := DataW.trod_int Try.underlying3 f4
  obtain ⟨z5, e5, _, w5⟩ := DataW.trod_int Try.underlying3 f5
  obtain ⟨z7, e7, _, w7⟩ := DataW.trod_int Try.underlying3 f7
  obtain ⟨A, cp, l, e6, h2, h3, h4, h5⟩ := open_intl f6 (lean_struct Try.underlying25 (parts := [y0.1, y1.1, y2.1, y3.1, y4.1, y5.1, y6.1, y7.1]) hw (j := 6) rfl rfl)
  simp only [List.cons.injEq, and_true] at e0 e1 e2 e3 e4 e5 e6 e7
  subst e0 e1 e2 e3 e4 e5 e6 e7
  refine ⟨⟨z0, z1, z2, z3, z4, z5, A, cp, l, z7⟩, rfl, ?_, h5, h2, h4, h3⟩
  intro n hn
  simp only [List.mem_cons, List.not_mem_nil, or_false] at hn
  rcases hn with rfl | rfl | rfl | rfl | rfl | rfl | rfl
  all_goals exact i64_wf (by assumption)
theorem list4 {α : Type} {l : List α} (h : l.length = 4) : ∃ a b c d, l = [a, b, c, d] := by
  match l, h with
  | [a, b, c, d], _ => exact ⟨a, b, c, d, rfl⟩
theorem list5 {α : Type} {l : List α} (h : l.length = 5) : ∃ a b c d e, l = [a, b, c, d, e] := by
  match l, h with
  | [a, b, c, d, e], _ => exact ⟨a, b, c, d, e, rfl⟩
theorem list3 {α : Type} {l : List α} (h : l.length = 3) : ∃ a b c, l = [a, b, c] := by
  match l, h with
  | [a, b, c], _ => exact ⟨a, b, c, rfl⟩
theorem list2 {α : Type} {l : List α} (h : l.length = 2) : ∃ a b, l = [a, b] := by
  match l, h with
  | [a, b], _ => exact ⟨a, b, rfl⟩
theorem cells_Term : Try.prog.cellsOf 29 = 4 := by kernel_rfl
theorem cells_Kind : Try.prog.cellsOf 26 = 1 := by kernel_rfl
theorem cells_A2 : Try.prog.cellsOf 27 = 2 := by kernel_rfl
theorem cells_Block : Try.prog.cellsOf 50 = 5 := by kernel_rfl
theorem cells_Func : Try.prog.cellsOf 43 = 2 := by kernel_rfl
theorem cells_LIns : Try.prog.cellsOf 48 = 1 := by kernel_rfl
theorem cells_LBlk : Try.prog.cellsOf 41 = 1 := by kernel_rfl
theorem open_term {n : Nat} {cs : List Value} {y : DataW H × List MemPlace} (h : DataW.trod enc Try.prog W 0 (fun _ => true) true n 29 cs = some y) : ∃ t : Tm, cs = t.cells ∧ ∀ n ∈ [t.kind, t.a, t.t0, t.t1], IR n := by
  obtain ⟨xs, m, _, rfl, hl, hlen, hf⟩ := DataW.trod_struct Try.underlying29 h
  simp only [List.size_toArray, List.length_cons, List.length_nil] at hlen
  obtain ⟨y0, y1, y2, rfl⟩ := list3 hlen
  have hl4 : cs.length = 4 := hl.trans cells_Term
  obtain ⟨c0, c1, c2, c3, rfl⟩ := list4 hl4
  have f0 : DataW.trod enc Try.prog W 0 (fun _ => true) true m 26 [c0] = some y0 := by
    have q := hf 0 _ rfl
    change DataW.trod enc Try.prog W 0 (fun _ => true) true m 26 (List.take (Try.prog.cellsOf 26) (List.drop 0 [c0, c1, c2, c3])) = some y0 at q
    rw [cells_Kind] at q
    exact q
  have f1 : DataW.trod enc Try.prog W 0 (fun _ => true) true m 3 [c1] = some y1 := by
    have q := hf 1 _ rfl
    change DataW.trod enc Try.prog W 0 (fun _ => true) true m 3 (List.take (Try.prog.cellsOf 3) (List.drop 1 [c0, c1, c2, c3])) = some y1 at q
    rw [cells_int] at q
    exact q
  have f2 : DataW.trod enc Try.prog W 0 (fun _ => true) true m 27 [c2, c3] = some y2 := by
    have q := hf 2 _ rfl
    change DataW.trod enc Try.prog W 0 (fun _ => true) true m 27 (List.take (Try.prog.cellsOf 27) (List.drop 2 [c0, c1, c2, c3])) = some y2 at q
    rw [cells_A2] at q
    exact q
  obtain ⟨xs, m2, _, e2, hl2, hlen2, hf2⟩ := DataW.trod_array Try.underlying27 f2
  obtain ⟨y3, y4, rfl⟩ := list2 hlen2
  have g0 : DataW.trod enc Try.prog W 0 (fun _ => true) true m2 3 [c2] = some y3 := by
    have q := hf2 0 (by decide)
    rw [cells_int] at q
    exact q
  have g1 : DataW.trod enc Try.prog W 0 (fun _ => true) true m2 3 [c3] = some y4 := by
    have q := hf2 1 (by decide)
    rw [cells_int] at q
    exact q
  obtain ⟨z0, e0, _, w0⟩ := DataW.trod_int Try.underlying26 f0
  obtain ⟨z1, e1, _, w1⟩ := DataW.trod_int Try.underlying3 f1
  obtain ⟨z2, e2, _, w2⟩ := DataW.trod_int Try.underlying3 g0
  obtain ⟨z3, e3, _, w3⟩ := DataW.trod_int Try.underlying3 g1
  simp only [List.cons.injEq, and_true] at e0 e1 e2 e3
  subst e0 e1 e2 e3
  refine ⟨⟨z0, z1, z2, z3⟩, rfl, ?_⟩
  intro n hn
  simp only [List.mem_cons, List.not_mem_nil, or_false] at hn
  rcases hn with rfl | rfl | rfl | rfl
  all_goals exact i64_wf (by assumption)
def GoodB (W : World) (b : RBlk) : Prop := (∀ n ∈ [b.term.kind, b.term.a, b.term.t0, b.term.t1], IR n) ∧ b.ins.length < 2 ^ 50 ∧ b.ins.length ≤ b.iC ∧ (∀ i ∈ b.ins, GoodI W i) ∧ Reads W W.heap.size 8 b.iA b.ins.length (b.ins.flatMap RIns.cells)
theorem open_block {n : Nat} {cs : List Value} {y : DataW H × List MemPlace} (h : DataW.trod enc Try.prog W 0 (fun _ => true) true n 50 cs = some y) (hw : Lean_ Try.prog 50 y.1) : ∃ b : RBlk, cs = b.cells ∧ GoodB W b := by
  obtain ⟨xs, m, _, rfl, hl, hlen, hf⟩ := DataW.trod_struct Try.underlying50 h
  simp only [List.size_toArray, List.length_cons, List.length_nil] at hlen
  obtain ⟨y0, y1, rfl⟩ := list2 hlen
  have hl5 : cs.length = 5 := hl.trans cells_Block
  obtain ⟨c0, c1, c2, c3, c4, rfl⟩ := list5 hl5
  have f0 : DataW.trod enc Try.prog W 0 (fun _ => true) true m 48 [c0] = some y0 := by
    have q := hf 0 _ rfl
    change DataW.trod enc Try.prog W 0 (fun _ => true) true m 48 (List.take (Try.prog.cellsOf 48) (List.drop 0 [c0, c1, c2, c3, c4])) = some y0 at q
    rw [cells_LIns] at q
    exact q
  have f1 : DataW.trod enc Try.prog W 0 (fun _ => true) true m 29 [c1, c2, c3, c4] = some y1 := by
    have q := hf 1 _ rfl
    change DataW.trod enc Try.prog W 0 (fun _ => true) true m 29 (List.take (Try.prog.cellsOf 29) (List.drop 1 [c0, c1, c2, c3, c4])) = some y1 at q
    rw [cells_Term] at q
    exact q
  obtain ⟨t, e1, ht⟩ := open_term f1
  obtain ⟨A, cp, l, e0, h1, h2, h3, h4⟩ := open_list (cf := RIns.cells) (Good := GoodI W) Try.underlying48 cells_Ins (by decide) (of_decide_eq_true (by kernel_rfl)) RIns.len (fun n cs y h hw => open_ins h hw) f0 (lean_struct Try.underlying50 (parts := [y0.1, y1.1]) hw (j := 0) rfl rfl)
  simp only [List.cons.injEq, and_true] at e0
  subst e0
  rw [e1]
  exact ⟨⟨A, cp, l, t⟩, rfl, ht, h4, h1, h3, h2⟩
theorem reads_func {v : Value} {d : DataW H} {p : List MemPlace} (h : DataW.Trod enc Try.prog W 0 (fun _ => true) true 43 v d p) (hv : ∃ cs, v = .agg cs) (hw : Lean_ Try.prog 43 d) : ∃ f : RFun, v = f.val ∧ FunAt W W.heap.size f ∧ Fit f := by
  obtain ⟨fuel, h⟩ := h
  obtain ⟨cs, rfl⟩ := hv
  obtain ⟨xs, m, _, e, hl, hlen, hf⟩ := DataW.trod_struct Try.underlying43 h
  simp only [List.size_toArray, List.length_cons, List.length_nil] at hlen
  obtain ⟨y0, y1, rfl⟩ := list2 hlen
  have hl2 : cs.toList.length = 2 := by simpa [Value.cells] using hl.trans cells_Func
  obtain ⟨c0, c1, hcs⟩ := list2 hl2
  have ed : d = .agg [y0.1, y1.1] := congrArg Prod.fst e
  subst ed
  simp only [Value.cells, hcs] at hf
  have f0 : DataW.trod enc Try.prog W 0 (fun _ => true) true m 23 [c0] = some y0 := by
    have q := hf 0 _ rfl
    change DataW.trod enc Try.prog W 0 (fun _ => true) true m 23 (List.take (Try.prog.cellsOf 23) (List.drop 0 [c0, c1])) = some y0 at q
    rw [cells_Lint] at q
    exact q
  have f1 : DataW.trod enc Try.prog W 0 (fun _ => true) true m 41 [c1] = some y1 := by
    have q := hf 1 _ rfl
    change DataW.trod enc Try.prog W 0 (fun _ => true) true m 41 (List.take (Try.prog.cellsOf 41) (List.drop 1 [c0, c1])) = some y1 at q
    rw [cells_LBlk] at q
    exact q
  obtain ⟨A, cp, l, e0, h1, h2, h3, h4⟩ := open_intl f0 (lean_struct Try.underlying43 (parts := [y0.1, y1.1]) hw (j := 0) rfl rfl)
  obtain ⟨A2, cp2, l2, e1, k1, k2, k3, k4⟩ := open_list (cf := RBlk.cells) (Good := GoodB W) Try.underlying41 cells_Block (by decide) (of_decide_eq_true (by kernel_rfl)) RBlk.len (fun n cs y h hw => open_block h hw) f1 (lean_struct Try.underlying43 (parts := [y0.1, y1.1]) hw (j := 1) rfl rfl)
  simp only [List.cons.injEq, and_true] at e0 e1
  subst e0 e1
  refine ⟨⟨A, cp, l, A2, cp2, l2⟩, ?_, ⟨h2, k2, fun b hb => (k3 b hb).2.2.2.2, fun b hb i hi => ((k3 b hb).2.2.2.1 i hi).2.2.2.2⟩, ?_⟩
  · have : cs = [Value.slice A l.length cp, .slice A2 l2.length cp2].toArray := by rw [← hcs]
    rw [this]; rfl
  · exact ⟨h3, h4, k4, h1, k1, fun b hb => (k3 b hb).2.1, fun b hb => (k3 b hb).2.2.1, fun b hb => (k3 b hb).1, fun b hb i hi => ((k3 b hb).2.2.2.1 i hi).1, fun b hb i hi => ((k3 b hb).2.2.2.1 i hi).2.1, fun b hb i hi => ((k3 b hb).2.2.2.1 i hi).2.2.1, fun b hb i hi => ((k3 b hb).2.2.2.1 i hi).2.2.2.1⟩
end
end
end Go.Proofs.Ytcojedoejpcolaa

/- IrTells: for every input that can be read, the law IrTells returns true and its arguments read as before. Conditions: the row. -/
namespace Go.Proofs.Ytcojedoejpcolaa
set_option linter.unusedVariables false
open Go Go.ChangeShapes Go.WideShapes Go.ChangeAt Go.RowKit
set_option maxRecDepth 100000

theorem irTells_lifted (os : Os) (started : os.Started) (H : Type) (enc : TypeId × Value → H) :
    ReturnsInHanded {} Try.checked os 5 .any (Rows.irTellsSpec.pre6 enc Try.prog Try.f5 Rows.irTellsRow.domain false) (Rows.irTellsSpec.post enc Try.prog Try.f5 false true false false) := by
  refine returnsInHanded_of_change_sized (C := Try.checked) own_ started (by kernel_rfl) Try.func5
    (ChangeSpec.witness6 (enc := enc) (C := Try.checked) false ⟨#[], #[.agg #[.slice none 0 0, .slice none 0 0]], []⟩ 8 (by kernel_rfl) (by kernel_rfl) (by kernel_rfl) (by kernel_rfl)) ?_
  intro W base args ds gs before hval0 hW _ hsz0 _
  have hval : ∀ (j : Nat) t v, Try.f5.params[j]? = some t → args[j]? = some v → Value.okWide Try.prog W .any base t v := hval0
  have hW' := hW
  obtain ⟨p, q, hA0, hV, rfl, hfz, hnd⟩ := hW
  have hA : DataW.TrodAll enc Try.prog W 0 (fun _ => true) true Try.f5.params.toList args.toList ds p := hA0
  have hsz : (DataW.weightsEach Try.prog (Try.f5.params.toList ++ Rows.irTellsSpec.plain.varTypes Try.prog) (ds ++ gs)).all (· ≤ reachBytes) = true := hsz0
  rw [Try.params5] at hA hval hsz
  obtain ⟨v0, vs0, d0, ds0, p0, q0, hargs, rfl, rfl, h0, r0⟩ := trodAll_cons hA
  obtain ⟨rfl, rfl, rfl⟩ := trodAll_nil r0
  obtain rfl : args = #[v0] := by cases args; simp_all
  obtain ⟨rfl, rfl⟩ := trodVars_none hV
  have k0 := h0
  have lt0 : ∀ x ∈ p0, x.block < W.heap.size := by obtain ⟨m, hm⟩ := k0; exact DataW.trod_lt m _ _ _ hm
  obtain ⟨z0, rfl, x0, y0⟩ := reads_func h0 (Exists.imp (fun _ h => h.1) (okWide_struct Try.underlying43 (hval 0 43 v0 rfl rfl))) (lean_each hsz (j := 0) rfl rfl)
  clear hA0 hval0
  refine ((law03_IrTells_ct x0 y0).calls).mono fun e W' ⟨v, he, L, hh, hv, _⟩ => ?_
  subst hv
  subst he
  have bel := hh.below
  exact ⟨_, rfl, _, _, _, [], _, [], hW', trodAll_mk1 (shut_bool Try.underlying4 _), (trodAll_cons_mk (Below.trod laidOut_ (by kernel_rfl) (of_decide_eq_true (by kernel_rfl)) k0 bel lt0) trodAll_mk0), rfl, bel.frame _, fun h => by cases h⟩
theorem irTells_said : Rows.IrTellsSaid :=
  OpenClaim.holds_of_wide 5 Try.f5 rfl rfl rfl rfl rfl rfl rfl ⟨rfl, rfl, rfl, rfl, rfl⟩ rfl rfl rfl rfl rfl (by kernel_rfl) Try.func5 (by kernel_rfl)
    (of_decide_eq_true (by kernel_rfl)) (by unfold Func.isWrapper; rw [if_neg (of_decide_eq_false (by kernel_rfl))]; exact ⟨rfl, rfl⟩)
    (fun os started H enc _ => irTells_lifted os started H enc)
end Go.Proofs.Ytcojedoejpcolaa

