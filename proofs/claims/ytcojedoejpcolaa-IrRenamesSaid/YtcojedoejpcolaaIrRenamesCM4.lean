/- IrRenames: for every input that can be read, the law IrRenames returns true and its arguments read as before. Conditions: the row. -/
/- Part 4 of the proof of IrRenamesC: the texts Most, IrRenames, OpenL, OpenF, IrRenamesC, one behind the other. -/
import Derived.Deep.Slices
import Derived.Test.YtcojedoejpcolaaIrRenamesCM3
/- The package ir: the most operands, arguments; a variable renamed, walked. -/
namespace Go.Proofs.Ytcojedoejpcolaa
set_option linter.unusedVariables false
open Go Go.RowKit
set_option maxRecDepth 100000

def insMost (p : Nat × Nat) (i : RIns) : Nat × Nat := if i.op = 13 then (p.1, max p.2 i.args.length) else (max p.1 (readsL i).length, p.2)
def blkMost (p : Nat × Nat) (b : RBlk) : Nat × Nat := b.ins.foldl insMost (max p.1 (needsL b.term).length, p.2)
def mostF (f : RFun) : Nat × Nat := if okF f then f.blocks.foldl blkMost (0, f.params.length) else (0, 0)
theorem mostF_bare (f : RFun) : mostF f.bare = mostF f := by
  unfold mostF okF
  rw [longF_bare, wholeF_bare]
  congr 1
  show (f.blocks.map RBlk.bare).foldl blkMost (0, f.params.length) = _
  rw [List.foldl_map]
  congr 1
  funext p b
  show (b.ins.map RIns.bare).foldl insMost _ = _
  rw [List.foldl_map]
  rfl
theorem mostF_ren {r : Int → Int} {rN : Nat → Nat} (h : Rnm r rN) (f : RFun) : mostF (renF r f) = mostF f := by
  unfold mostF
  rw [okF_ren h]
  congr 1
  show (f.blocks.map (renB r)).foldl blkMost (0, (f.params.map r).length) = _
  rw [List.foldl_map, List.length_map]
  congr 1
  funext p b
  show (b.ins.map (renI r)).foldl insMost (max p.1 (needsL (renT r b.term)).length, p.2) = _
  rw [List.foldl_map, needsL_ren h, List.length_map]
  unfold blkMost
  congr 1
  funext p i
  unfold insMost
  rw [readsL_ren h, List.length_map]
  show (if i.op = 13 then (p.1, max p.2 (i.args.map r).length) else _) = _
  rw [List.length_map]
theorem sizeF_bare (f : RFun) : sizeF f.bare = sizeF f := by
  unfold sizeF okF
  rw [longF_bare, wholeF_bare]
  congr 2
  show (f.blocks.map RBlk.bare).map _ = _
  rw [List.map_map]
  apply List.map_congr_left
  intro b _
  simp [Function.comp, RBlk.bare]
theorem noteF_bare (f : RFun) : noteF f.bare = noteF f := by
  unfold noteF
  show f.params ++ (f.blocks.map RBlk.bare).flatMap noteB = _
  rw [List.flatMap_map]
  congr 2
  funext b
  show (b.ins.map RIns.bare).flatMap noteI ++ needsL b.term = _
  rw [List.flatMap_map]
  rfl
theorem varsF_bare (f : RFun) : varsF f.bare = varsF f := by
  unfold varsF okF
  rw [longF_bare, wholeF_bare, noteF_bare]
section
theorem maxI (a b : Nat) : (if (a : Int) < (b : Int) then (b : Int) else (a : Int)) = ((max a b : Nat) : Int) := by omega
def mostTo' (f : RFun) (k : Nat) : Nat × Nat := (f.blocks.take k).foldl blkMost (0, f.params.length)
set_option maxHeartbeats 4000000 in
theorem ir_Most_ct {w : World} {f : RFun} (hf : FunAt w w.heap.size f) (hfit : Fit f) : Ct Try.prog 33 #[f.val] w (Is (.tuple #[.int .i64 ((mostF f).1 : Nat), .int .i64 ((mostF f).2 : Nat)])) := by
  have hbl := hfit.blen
  refine Ct.mk Try.func33 rfl rfl ?_
  refine Cd.seq ?_
  refine Cd.region ?_
  refine Ol.x bxg ?_
  rintro _ _ ⟨g1, rfl, rfl⟩
  refine Ol.p asi ?_
  refine Ol.p asi ?_
  refine Ol.nil ?_
  refine Cd.seq ?_
  cases hok : okF f with
  | false =>
    have hv : mostF f = (0, 0) := by unfold mostF; rw [hok]; rfl
    rw [hv]
    refine Cd.mid (fun σ' L' => Has σ' [(14, .bool true)] ∧ [blk g1 (.cells f.cells.toArray 43)] = L') ?_ ?_
    · cases hl : longF f with
      | true =>
        refine Cd.region ?_
        refine Ol.p (ldw ag_api_Func (i := 0) rfl rfl) ?_
        refine Ol.s (cl en_ir_long (fun M w' hh => ir_long_ct (hf.now hh) hfit)) ?_
        refine Ol.p mvb ?_
        refine Ol.gn hl ?_
        refine Ol.gn hl ?_
        refine Ol.gn hl ?_
        refine Ol.p (pkTb hl) ?_
        refine Ol.nil ?_
        exact ⟨⟨rfl, trivial⟩, rfl⟩
      | false =>
        have hw : wholeF f = false := by unfold okF at hok; rw [hl] at hok; simpa using hok
        refine Cd.region ?_
        refine Ol.p (ldw ag_api_Func (i := 0) rfl rfl) ?_
        refine Ol.s (cl en_ir_long (fun M w' hh => ir_long_ct (hf.now hh) hfit)) ?_
        refine Ol.p mvb ?_
        refine Ol.gp hl (ldw ag_api_Func (i := 0) rfl rfl) ?_
        refine Ol.gs hl (cl en_ir_whole (fun M w' hh => ir_whole_ct (hf.now hh) hfit)) ?_
        refine Ol.gp hl noti ?_
        refine Ol.p (pkFb hl) ?_
        refine Ol.nil ?_
        exact ⟨⟨by show Value.bool _ = _; rw [hw]; rfl, trivial⟩, rfl⟩
    rintro σ' _ ⟨hs', rfl⟩
    refine Cd.has hs' ?_
    refine Cd.cond rfl (fun h => ?_) (fun h => by cases h)
    refine Cd.seq ?_
    refine Cd.region ?_
    refine Ol.p asi ?_
    refine Ol.p asi ?_
    refine Ol.nil ?_
    exact Cd.ret ⟨.tuple _, ret2 rfl rfl rfl, [], .nil, rfl, rfl⟩
  | true =>
  obtain ⟨hl, hw⟩ := ok_parts hok
  obtain ⟨h0, h200, h8, h64⟩ := long_parts hl
  have hwb : (!wholeF f) = false := by rw [hw]; rfl
  have hv : mostF f = f.blocks.foldl blkMost (0, f.params.length) := by unfold mostF; rw [hok]; rfl
  refine Cd.seq ?_
  refine Cd.region ?_
  refine Ol.p (ldw ag_api_Func (i := 0) rfl rfl) ?_
  refine Ol.s (cl en_ir_long (fun M w' hh => ir_long_ct (hf.now hh) hfit)) ?_
  refine Ol.p mvb ?_
  refine Ol.gp hl (ldw ag_api_Func (i := 0) rfl rfl) ?_
  refine Ol.gs hl (cl en_ir_whole (fun M w' hh => ir_whole_ct (hf.now hh) hfit)) ?_
  refine Ol.gp hl noti ?_
  refine Ol.p (pkFb hl) ?_
  refine Ol.nil ?_
  refine Cd.cond rfl (fun h => by rw [hwb] at h; cases h) (fun h => ?_)
  refine Cd.skip ?_
  refine Cd.seq ?_
  refine Cd.region ?_
  refine Ol.p (fdl fd_api_Func_0) ?_
  refine Ol.p (ld one_L_int (Rd.blk (i := 0) rfl rfl)) ?_
  refine Ol.p (lens sl_L_int) ?_
  refine Ol.p asi ?_
  refine Ol.nil ?_
  refine Cd.seq ?_
  refine Cd.seq ?_
  refine Cd.region ?_
  refine Ol.p (fdl fd_api_Func_1) ?_
  refine Ol.p (ld one_L_api_Block (Rd.blk (i := 0) rfl rfl)) ?_
  refine Ol.p (lens sl_L_api_Block) ?_
  refine Ol.p mvi ?_
  refine Ol.nil ?_
  refine Cd.block ?_
  refine Cd.loop (fun m σ L => ∃ k, m = f.blocks.length - k ∧ k ≤ f.blocks.length ∧ Has σ [(2, .int .i64 ((mostTo' f k).1 : Nat)), (3, .int .i64 ((mostTo' f k).2 : Nat)), (19, .slice f.bA f.blocks.length f.bC), (20, .int .i64 f.blocks.length), (21, .int .i64 k)] ∧ [blk g1 (.cells f.cells.toArray 43)] = L) (n := f.blocks.length) ⟨0, rfl, Nat.zero_le _, ⟨rfl, rfl, rfl, rfl, rfl, trivial⟩, rfl⟩ ?_
  rintro _ σ L ⟨k, rfl, hk, hs, rfl⟩
  refine Cd.has hs ?_
  clear hs
  refine Cd.seq ?_
  refine Cd.region ?_
  refine Ol.p lsi ?_
  refine Ol.nil ?_
  refine Cd.seq ?_
  refine Cd.cond rfl (fun h => ?_) (fun h => ?_)
  · have hlt : k < f.blocks.length := by
      simp only [decide_eq_true_eq] at h; omega
    obtain ⟨x, hx⟩ : ∃ x, f.blocks[k]? = some x := ⟨_, List.getElem?_eq_getElem hlt⟩
    have hxm := List.mem_of_getElem? hx
    have hxl := h64 x hxm
    obtain ⟨p, hp⟩ : ∃ p, p = mostTo' f k := ⟨_, rfl⟩
    have hp2 : mostTo' f (k + 1) = blkMost p x := by rw [hp]; unfold mostTo'; rw [take_snoc_ hx, List.foldl_append]; rfl
    rw [← hp]
    refine Cd.skip ?_
    refine Cd.seq ?_
    refine Cd.block ?_
    refine Cd.seq ?_
    refine Cd.region ?_
    refine Ol.p (ixn (ix := k) sl_L_api_Block (Som.slc hf.blocks (by omega))) ?_
    refine Ol.p (lds (es := x.cells) ag_api_Block hf.blocks x.len (fun j u hu => blk_cell hx hu)) ?_
    refine Ol.x (alc zr_api_Block) ?_
    rintro _ _ ⟨g5, rfl, rfl⟩
    refine Ol.s (stw (vs := x.cells.toArray) sz_api_Block rfl x.one (i := 0) rfl rfl) ?_
    refine Ol.nil ?_
    refine Cd.seq ?_
    refine Cd.region ?_
    refine Ol.p mvi ?_
    refine Ol.p (fdl fd_api_Block_1) ?_
    refine Ol.p (ldp (k := 0 + 1) (vs := x.term.cells.toArray) ag_api_Term (i := 0) rfl rfl (fun j u hu => by rw [Nat.zero_add, Nat.add_comm]; simpa [RBlk.cells] using hu)) ?_
    refine Ol.x (sp_call en_ir_Needs (fun M w' hh => ir_Needs_ct (t := x.term))) ?_
    rintro _ _ ⟨_, rfl, A28, c28, rfl, rfl⟩
    refine Ol.p (lens sl_L_int) ?_
    refine Ol.p maxi ?_
    refine Ol.p asi ?_
    refine Ol.keep (.sub (.cons _ (List.Sublist.refl _))) ?_
    refine Ol.nil ?_
    rw [maxI]
    obtain ⟨p0, hp0⟩ : ∃ p0 : Nat × Nat, p0 = (max p.1 (needsL x.term).length, p.2) := ⟨_, rfl⟩
    refine Cd.seq ?_
    refine Cd.region ?_
    refine Ol.p (fdl fd_api_Block_0) ?_
    refine Ol.p (ld one_L_api_Ins (Rd.blk (i := 0) rfl rfl)) ?_
    refine Ol.p (lens sl_L_api_Ins) ?_
    refine Ol.p mvi ?_
    refine Ol.nil ?_
    refine Cd.block ?_
    refine Cd.loop (fun m σ L => ∃ j, m = x.ins.length - j ∧ j ≤ x.ins.length ∧ Has σ [(2, .int .i64 (((x.ins.take j).foldl insMost p0).1 : Nat)), (3, .int .i64 (((x.ins.take j).foldl insMost p0).2 : Nat)), (5, .pointer (some ⟨g5, 0, none⟩)), (19, .slice f.bA f.blocks.length f.bC), (20, .int .i64 f.blocks.length), (21, .int .i64 k), (32, .slice x.iA x.ins.length x.iC), (33, .int .i64 x.ins.length), (34, .int .i64 j)] ∧ [blk g5 (.cells x.cells.toArray 50), blk g1 (.cells f.cells.toArray 43)] = L) (n := x.ins.length) ⟨0, rfl, Nat.zero_le _, ⟨by rw [hp0]; rfl, by rw [hp0]; rfl, rfl, rfl, rfl, rfl, rfl, rfl, rfl, trivial⟩, rfl⟩ ?_
    rintro _ σ L ⟨j, rfl, hj, hs, rfl⟩
    refine Cd.has hs ?_
    clear hs
    refine Cd.seq ?_
    refine Cd.region ?_
    refine Ol.p lsi ?_
    refine Ol.nil ?_
    refine Cd.seq ?_
    refine Cd.cond rfl (fun h2 => ?_) (fun h2 => ?_)
    · have hjl : j < x.ins.length := by
        simp only [decide_eq_true_eq] at h2; omega
      obtain ⟨i, hi⟩ : ∃ i, x.ins[j]? = some i := ⟨_, List.getElem?_eq_getElem hjl⟩
      have him := List.mem_of_getElem? hi
      have hrl := readsL_len i
      have hal := hfit.alen x hxm i him
      have hia : ∀ {M : List Res} {w' : World}, Hp w w.heap.size M w' → InsAt w' i := fun hh => ⟨(hf.args x hxm i him).now hh, hal, hfit.insr x hxm i him i.callee (by simp)⟩
      obtain ⟨q, hq⟩ : ∃ q, q = (x.ins.take j).foldl insMost p0 := ⟨_, rfl⟩
      have hq2 : (x.ins.take (j + 1)).foldl insMost p0 = insMost q i := by rw [hq, take_snoc_ hi, List.foldl_append]; rfl
      rw [← hq]
      refine Cd.skip ?_
      refine Cd.seq ?_
      refine Cd.block ?_
      refine Cd.seq ?_
      refine Cd.region ?_
      refine Ol.p (ixn (ix := j) sl_L_api_Ins (Som.slc (hf.ins x hxm) (by omega))) ?_
      refine Ol.p (lds (es := i.cells) ag_api_Ins (hf.ins x hxm) i.len (fun j u hu => ins_cell hi hu)) ?_
      refine Ol.x (alc zr_api_Ins) ?_
      rintro _ _ ⟨g7, rfl, rfl⟩
      refine Ol.s (stw (vs := i.cells.toArray) sz_api_Ins rfl i.one (i := 0) rfl rfl) ?_
      refine Ol.nil ?_
      refine Cd.seq ?_
      refine Cd.region ?_
      refine Ol.p (fdl fd_api_Ins_0) ?_
      refine Ol.p (ld (v := .int .i64 i.op) one_api_Op (Rd.blk (i := 0) rfl rfl)) ?_
      refine Ol.nil ?_
      refine Cd.block ?_
      refine Cd.seq ?_
      refine Cd.region ?_
      refine Ol.p eqi ?_
      refine Ol.p asb ?_
      refine Ol.nil ?_
      refine Cd.cond rfl (fun h3 => ?_) (fun h3 => ?_)
      · have hop : i.op = 13 := by simpa using h3
        refine Cd.region ?_
        refine Ol.p mvi ?_
        refine Ol.p (fdl fd_api_Ins_6) ?_
        refine Ol.p (ld (v := .slice i.aA i.args.length i.aC) one_L_int (Rd.blk (i := 0) rfl rfl)) ?_
        refine Ol.p (lens sl_L_int) ?_
        refine Ol.p maxi ?_
        refine Ol.p asi ?_
        refine Ol.keep (.sub (.cons _ (List.Sublist.refl _))) ?_
        refine Ol.nil ?_
        rw [maxI]
        refine Cd.region ?_
        refine Ol.p addi ?_
        refine Ol.p mvi ?_
        refine Ol.nil ?_
        refine ⟨x.ins.length - (j + 1), by omega, j + 1, rfl, by omega, ⟨?_, ?_, rfl, rfl, rfl, rfl, rfl, rfl, rfl, trivial⟩, rfl⟩
        · rw [hq2]; unfold insMost; rw [if_pos hop]; rfl
        · rw [hq2]; unfold insMost; rw [if_pos hop]; rfl
      have hop : ¬ i.op = 13 := by simpa using h3
      refine Cd.region ?_
      refine Ol.p mvi ?_
      refine Ol.p (ldw (cs := i.cells.toArray) ag_api_Ins (i := 0) rfl rfl) ?_
      refine Ol.x (sp_call en_ir_Reads (fun M w' hh => ir_Reads_ct (hia hh))) ?_
      rintro _ _ ⟨_, rfl, A42, c42, rfl, rfl⟩
      refine Ol.p (lens sl_L_int) ?_
      refine Ol.p maxi ?_
      refine Ol.p asi ?_
      refine Ol.keep (.sub (.cons _ (.cons _ (List.Sublist.refl _)))) ?_
      refine Ol.nil ?_
      rw [maxI]
      refine Cd.region ?_
      refine Ol.p addi ?_
      refine Ol.p mvi ?_
      refine Ol.nil ?_
      refine ⟨x.ins.length - (j + 1), by omega, j + 1, rfl, by omega, ⟨?_, ?_, rfl, rfl, rfl, rfl, rfl, rfl, rfl, trivial⟩, rfl⟩
      · rw [hq2]; unfold insMost; rw [if_neg hop]; rfl
      · rw [hq2]; unfold insMost; rw [if_neg hop]; rfl
    have hje : j = x.ins.length := by
      simp only [decide_eq_false_iff_not] at h2; omega
    subst hje
    rw [List.take_of_length_le (Nat.le_refl _)]
    refine Cd.exit (id := 2) ?_
    refine Cd.region ?_
    refine Ol.p addi ?_
    refine Ol.p mvi ?_
    refine Ol.keep (.sub (.cons _ (List.Sublist.refl _))) ?_
    refine Ol.nil ?_
    refine ⟨f.blocks.length - (k + 1), by omega, k + 1, rfl, by omega, ⟨?_, ?_, rfl, rfl, rfl, trivial⟩, rfl⟩
    · rw [hp2, hp0]; rfl
    · rw [hp2, hp0]; rfl
  have hke : k = f.blocks.length := by
    simp only [decide_eq_false_iff_not] at h; omega
  have hm : mostTo' f k = mostF f := by
    rw [hv, hke]
    unfold mostTo'
    rw [List.take_of_length_le (Nat.le_refl _)]
  rw [hm]
  refine Cd.exit (id := 0) ?_
  refine Cd.seq ?_
  refine Cd.region ?_
  refine Ol.p mvi ?_
  refine Ol.p mvi ?_
  refine Ol.p asi ?_
  refine Ol.p asi ?_
  refine Ol.nil ?_
  exact Cd.ret ⟨.tuple _, ret2 rfl rfl rfl, [], .nil, rfl, rfl⟩
end
section
theorem law03_renamed_ct {w : World} {v : Int} {k : Nat} (hk : k < 200) (hv : -9223372036854775808 ≤ v ∧ v ≤ 9223372036854775807) : Ct Try.prog 42 #[.int .i64 v, .int .i64 (k : Int)] w (Is (.int .i64 (shiftI k v))) := by
  refine Ct.mk Try.func42 rfl rfl ?_
  refine Cd.seq ?_
  refine Cd.region ?_
  refine Ol.p asi ?_
  refine Ol.nil ?_
  refine Cd.seq ?_
  refine Cd.mid (fun σ' L' => Has σ' [(0, .int .i64 v), (1, .int .i64 (k : Int)), (10, .bool (decide (v < 1 ∨ 200 < v)))] ∧ [] = L') ?_ ?_
  · cases h2 : decide (v < 1) with
    | true =>
      have hv1 : v < 1 := by simpa using h2
      refine Cd.region ?_
      refine Ol.p mvi ?_
      refine Ol.p lsi ?_
      refine Ol.p mvb ?_
      refine Ol.gn h2 ?_
      refine Ol.gn h2 ?_
      refine Ol.p (pkTb h2) ?_
      refine Ol.nil ?_
      exact ⟨⟨rfl, rfl, by show Value.bool _ = _; simp [hv1], trivial⟩, rfl⟩
    | false =>
      have hv1 : ¬ v < 1 := by simpa using h2
      refine Cd.region ?_
      refine Ol.p mvi ?_
      refine Ol.p lsi ?_
      refine Ol.p mvb ?_
      refine Ol.gp h2 mvi ?_
      refine Ol.gp h2 gti ?_
      refine Ol.p (pkFb h2) ?_
      refine Ol.nil ?_
      exact ⟨⟨rfl, rfl, by show Value.bool _ = _; simp [hv1], trivial⟩, rfl⟩
  rintro σ' _ ⟨hs', rfl⟩
  refine Cd.has hs' ?_
  refine Cd.cond rfl (fun h => ?_) (fun h => ?_)
  · have h1 : v < 1 ∨ 200 < v := by simpa using h
    refine Cd.seq ?_
    refine Cd.region ?_
    refine Ol.p mvi ?_
    refine Ol.p asi ?_
    refine Ol.nil ?_
    exact Cd.ret ⟨.int .i64 _, ret1 rfl rfl, [], .nil, by unfold shiftI; rw [if_pos h1], rfl⟩
  have h1 : ¬ (v < 1 ∨ 200 < v) := by simpa using h
  have e1 : (v - 1 + (k : Int)).tmod 200 = (v - 1 + (k : Int)) % 200 := Int.tmod_eq_emod_of_nonneg (by omega)
  refine Cd.skip ?_
  refine Cd.seq ?_
  refine Cd.region ?_
  refine Ol.p mvi ?_
  refine Ol.p subi ?_
  refine Ol.p mvi ?_
  refine Ol.p addi ?_
  refine Ol.p remi ?_
  rw [e1]
  refine Ol.p addi ?_
  refine Ol.p asi ?_
  refine Ol.nil ?_
  exact Cd.ret ⟨.int .i64 _, ret1 rfl rfl, [], .nil, by unfold shiftI; rw [if_neg h1], rfl⟩
end
end Go.Proofs.Ytcojedoejpcolaa

/- The law 03: IrRenames, walked. -/
namespace Go.Proofs.Ytcojedoejpcolaa
set_option linter.unusedVariables false
open Go Go.RowKit
set_option maxRecDepth 100000

theorem sz_arg : ∀ {l : List RIns} {i : RIns}, i ∈ l → i.args.length ≤ argSum l
  | [], _, h => by cases h
  | a :: l, i, h => by
    have e : argSum (a :: l) = a.args.length + argSum l := by simp [argSum]
    rcases List.mem_cons.1 h with rfl | h
    · omega
    · have := sz_arg h; omega
theorem sz_blk : ∀ {l : List RBlk} {b : RBlk}, b ∈ l → bsz b ≤ blocksSz l
  | [], _, h => by cases h
  | a :: l, b, h => by
    have e : blocksSz (a :: l) = bsz a + blocksSz l := by simp [blocksSz]
    rcases List.mem_cons.1 h with rfl | h
    · omega
    · have := sz_blk h; omega
theorem sz_len : ∀ l : List RBlk, l.length ≤ blocksSz l
  | [] => by simp
  | a :: l => by
    have e : blocksSz (a :: l) = bsz a + blocksSz l := by simp [blocksSz]
    have := sz_len l
    have h2 : 1 ≤ bsz a := by unfold bsz; omega
    simp only [List.length_cons]; omega
theorem BlksIn.of {w : World} {f : RFun} (hf : FunAt w w.heap.size f) (h : f.sz ≤ 700) : BlksIn w w.heap.size f.bA f.blocks := by
  have h1 := sz_len f.blocks
  have h0 : f.params.length + blocksSz f.blocks ≤ 700 := h
  refine ⟨hf.blocks, hf.ins, hf.args, by omega, fun b hb => ?_, fun b hb i hi => ?_⟩
  · have := sz_blk hb
    unfold bsz at this; omega
  · have := sz_blk hb
    have h3 := sz_arg hi
    unfold bsz at this; omega
theorem set_self {α : Type} {l : List α} {b : Nat} {x : α} (h : l[b]? = some x) : l.set b x = l := by
  apply List.ext_getElem?
  intro i
  rw [List.getElem?_set]
  split
  · rename_i e
    subst e
    have := (List.getElem?_eq_some_iff.1 h).1
    rw [if_pos this]; exact h.symm
  · rfl
theorem intsN_at {l : List Nat} {k n : Nat} (h : l[k]? = some n) : (intsN l)[k]? = some (.int .i64 (n : Int)) := by simp [intsN, h]
theorem FitC.ren {r : Int → Int} {f : RFun} (hr : ∀ n, -9223372036854775808 ≤ n ∧ n ≤ 9223372036854775807 → -9223372036854775808 ≤ r n ∧ r n ≤ 9223372036854775807) (h : FitC f) : FitC (renF r f) := by
  have hb : ∀ b ∈ (renF r f).blocks, ∃ y ∈ f.blocks, b = renB r y := fun b hb => by
    obtain ⟨y, hy, e⟩ := List.mem_map.1 hb
    exact ⟨y, hy, e.symm⟩
  have hi : ∀ (y : RBlk), ∀ i ∈ (renB r y).ins, ∃ j ∈ y.ins, i = renI r j := fun y i hi => by
    obtain ⟨j, hj, e⟩ := List.mem_map.1 hi
    exact ⟨j, hj, e.symm⟩
  refine ⟨fun n hn => ?_, by simpa [renF] using h.plen, by simpa [renF] using h.blen, fun b hb' => ?_, fun b hb' n hn => ?_, fun b hb' i hi' n hn => ?_, fun b hb' i hi' => ?_, fun b hb' i hi' n hn => ?_⟩
  · obtain ⟨m, hm, rfl⟩ := List.mem_map.1 hn
    exact hr m (h.params m hm)
  · obtain ⟨y, hy, rfl⟩ := hb b hb'
    simpa [renB] using h.ilen y hy
  · obtain ⟨y, hy, rfl⟩ := hb b hb'
    have ht := h.term y hy
    simp only [renB, renT, List.mem_cons, List.not_mem_nil, or_false] at hn
    rcases hn with rfl | rfl | rfl | rfl
    · exact ht _ (by simp)
    · exact hr _ (ht _ (by simp))
    · exact ht _ (by simp)
    · exact ht _ (by simp)
  · obtain ⟨y, hy, rfl⟩ := hb b hb'
    obtain ⟨j, hj, rfl⟩ := hi y i hi'
    have ht := h.insr y hy j hj
    simp only [renI, List.mem_cons, List.not_mem_nil, or_false] at hn
    rcases hn with rfl | rfl | rfl | rfl | rfl | rfl | rfl
    · exact ht _ (by simp)
    · exact hr _ (ht _ (by simp))
    · exact hr _ (ht _ (by simp))
    · exact hr _ (ht _ (by simp))
    · exact ht _ (by simp)
    · exact ht _ (by simp)
    · exact ht _ (by simp)
  · obtain ⟨y, hy, rfl⟩ := hb b hb'
    obtain ⟨j, hj, rfl⟩ := hi y i hi'
    simpa [renI] using h.alen y hy j hj
  · obtain ⟨y, hy, rfl⟩ := hb b hb'
    obtain ⟨j, hj, rfl⟩ := hi y i hi'
    obtain ⟨m, hm, rfl⟩ := List.mem_map.1 hn
    exact hr m (h.argr y hy j hj m hm)
theorem shift_range {k : Nat} (n : Int) (h : -9223372036854775808 ≤ n ∧ n ≤ 9223372036854775807) : -9223372036854775808 ≤ shiftI k n ∧ shiftI k n ≤ 9223372036854775807 := by
  unfold shiftI
  split
  · exact h
  · omega
section
set_option maxHeartbeats 16000000 in
theorem law03_IrRenames_ct {w : World} {f : RFun} {by_ : Int} (hf : FunAt w w.heap.size f) (hfit : Fit f) : Ct Try.prog 6 #[f.val, .int .i64 by_] w (Is (.bool true)) := by
  have hfc := hfit.c
  refine Ct.mk Try.func6 rfl rfl ?_
  refine Cd.seq ?_
  refine Cd.region ?_
  refine Ol.x bxg ?_
  rintro _ _ ⟨g2, rfl, rfl⟩
  refine Ol.p asb ?_
  refine Ol.nil ?_
  refine Cd.seq ?_
  refine Cd.seq ?_
  refine Cd.region ?_
  refine Ol.s (cl en_law03_awake (fun M w' hh => law03_awake_ct)) ?_
  refine Ol.p noti ?_
  refine Ol.nil ?_
  refine Cd.cond rfl (fun h => by cases h) (fun h => ?_)
  refine Cd.skip ?_
  refine Cd.seq ?_
  refine Cd.seq ?_
  refine Cd.region ?_
  refine Ol.p (ldw ag_api_Func (i := 0) rfl rfl) ?_
  refine Ol.x (sp_call en_kit_FuncOf (fun M w' hh => kit_FuncOf_ct (hf.now hh) hfit (most := 700) (by decide))) ?_
  rintro _ _ ⟨_, rfl, N, rfl, hN1, hN2, rfl⟩
  refine Ol.p gti ?_
  refine Ol.nil ?_
  refine Cd.cond rfl (fun h => ?_) (fun h => ?_)
  · refine Cd.seq ?_
    refine Cd.region ?_
    refine Ol.p asb ?_
    refine Ol.nil ?_
    exact Cd.ret ⟨.bool _, ret1 rfl rfl, [], .nil, rfl, rfl⟩
  have hsz : f.sz ≤ 700 := by
    simp only [decide_eq_false_iff_not] at h
    have := hN1 (by omega)
    omega
  clear h
  have hpl : f.params.length ≤ 700 := by unfold RFun.sz at hsz; omega
  refine Cd.skip ?_
  refine Cd.seq ?_
  refine Cd.region ?_
  refine Ol.p (ldw ag_api_Func (i := 0) rfl rfl) ?_
  refine Ol.x (sp_call en_kit_CopyFunc (fun M w' hh => kit_CopyFunc_ct (f := f) (hf.now hh) (by omega) ((BlksIn.of hf hsz).now hh))) ?_
  rintro _ _ ⟨T, rfl, G, hG, rfl, hT⟩
  refine Ol.keep (L' := [blk g2 (.cells f.cells.toArray 43)] ++ funRes G) ⟨[], perm_count fun _ x => by
    have := hT.count_eq x
    simp only [List.count_append, List.count_cons, List.count_nil]; omega⟩ ?_
  have hGc : FitC G := hfc.same hG
  refine Ol.x (alc zr_api_Func) ?_
  rintro _ _ ⟨g5, rfl, rfl⟩
  refine Ol.s (stw (vs := G.cells.toArray) sz_api_Func rfl (by intro u hu; simp [RFun.cells] at hu; rcases hu with rfl | rfl <;> rfl) (i := 0) rfl rfl) ?_
  refine Ol.nil ?_
  obtain ⟨kk, hkk⟩ : ∃ kk, kk = pickF by_ 200 := ⟨_, rfl⟩
  have hk200 : kk < 200 := by rw [hkk]; exact pickF_lt (by decide)
  have hR := shift_rnm hk200
  obtain ⟨r, hr⟩ : ∃ r, r = shiftI kk := ⟨_, rfl⟩
  obtain ⟨rN, hrN⟩ : ∃ rN, rN = shiftN kk := ⟨_, rfl⟩
  rw [← hr, ← hrN] at hR
  have hren : ∀ (v : Int), (-9223372036854775808 ≤ v ∧ v ≤ 9223372036854775807) → ∀ (w' : World), Ct Try.prog 42 #[.int .i64 v, .int .i64 (kk : Int)] w' (Is (.int .i64 (r v))) := fun v hv w' => by rw [hr]; exact law03_renamed_ct hk200 hv
  have hrr : ∀ n, -9223372036854775808 ≤ n ∧ n ≤ 9223372036854775807 → -9223372036854775808 ≤ r n ∧ r n ≤ 9223372036854775807 := by rw [hr]; exact shift_range
  refine Cd.seq ?_
  refine Cd.region ?_
  refine Ol.p mvi ?_
  refine Ol.s (cl en_kit_Pick (fun M w' hh => kit_Pick_ct (x := by_) (n := 200) (by decide) (by decide))) ?_
  refine Ol.p asi ?_
  refine Ol.nil ?_
  rw [← hkk]
  -- its parameters
  obtain ⟨G1, hG1⟩ : ∃ G1 : RFun, G1 = { G with params := G.params.map r } := ⟨_, rfl⟩
  have hGl := hGc.plen
  have hGbl := hGc.blen
  refine Cd.mid (fun σ' L' => Has σ' [(2, .pointer (some ⟨g2, 0, none⟩)), (5, .pointer (some ⟨g5, 0, none⟩)), (6, .int .i64 (kk : Int))] ∧ [blk g5 (.cells G1.cells.toArray 43), blk g2 (.cells f.cells.toArray 43)] ++ funRes G1 = L') ?_ ?_
  · refine Cd.seq ?_
    refine Cd.region ?_
    refine Ol.p asi ?_
    refine Ol.nil ?_
    refine Cd.block ?_
    refine Cd.loop (fun m σ L => ∃ j, m = G.params.length - j ∧ j ≤ G.params.length ∧ Has σ [(2, .pointer (some ⟨g2, 0, none⟩)), (5, .pointer (some ⟨g5, 0, none⟩)), (6, .int .i64 (kk : Int)), (7, .int .i64 j)] ∧ [blk g5 (.cells G.cells.toArray 43), blk g2 (.cells f.cells.toArray 43), row (.slice G.pA G.params.length G.pC) 3 1 G.params.length (ints (turnTo r G.params j)), blkRow G] ++ G.blocks.flatMap blkRes = L) (n := G.params.length) ⟨0, rfl, Nat.zero_le _, ⟨rfl, rfl, rfl, rfl, trivial⟩, by rw [turnTo_zero]; rfl⟩ ?_
    rintro _ σ L ⟨j, rfl, hj, hs, rfl⟩
    refine Cd.has hs ?_
    clear hs
    refine Cd.seq ?_
    refine Cd.seq ?_
    refine Cd.region ?_
    refine Ol.p mvi ?_
    refine Ol.p (fdl fd_api_Func_0) ?_
    refine Ol.p (ld (v := .slice G.pA G.params.length G.pC) one_L_int (Rd.blk (i := 0) rfl rfl)) ?_
    refine Ol.p (lens sl_L_int) ?_
    refine Ol.p lsi ?_
    refine Ol.nil ?_
    refine Cd.cond rfl (fun h => ?_) (fun h => ?_)
    · have hjl : j < G.params.length := by
        simp only [decide_eq_true_eq] at h; omega
      obtain ⟨n, hn⟩ : ∃ n, G.params[j]? = some n := ⟨_, List.getElem?_eq_getElem hjl⟩
      have hnr := hGc.params n (List.mem_of_getElem? hn)
      refine Cd.skip ?_
      refine Cd.seq ?_
      refine Cd.block ?_
      refine Cd.draw mixed 11 (exIs (fun opNo => match opNo with | 9 => some (.int .i64 (r n)) | _ => none)) (fun _ => []) (by kernel_rfl) exIs_in (fun u hu => ?_)
      refine Wk.p (fdl fd_api_Func_0) ?_
      refine Wk.p (ld (v := .slice G.pA G.params.length G.pC) one_L_int (Rd.blk (i := 0) rfl rfl)) ?_
      refine Wk.p mvi ?_
      refine Wk.p (fdl fd_api_Func_0) ?_
      refine Wk.p (ld (v := .slice G.pA G.params.length G.pC) one_L_int (Rd.blk (i := 0) rfl rfl)) ?_
      refine Wk.p mvi ?_
      refine Wk.p (ixn1 (ix := j) sl_L_int (Som.row (i := 2) rfl (by omega))) ?_
      refine Wk.p (ld one_int (Rd.row (i := 2) rfl (ints_at (turnTo_get hn)))) ?_
      refine Wk.p mvi ?_
      refine Wk.dk hu (sp_call en_law03_renamed (fun M w' hh => hren n hnr w')) ?_
      refine Wk.p (ixn1 (ix := j) sl_L_int (Som.row (i := 2) rfl (by omega))) ?_
      refine Wk.nil ?_
      rw [needs_exIs hu rfl]
      refine Ol.s (str (v := .int .i64 (r n)) (k := j) sz_int rfl rfl (i := 2) rfl (by simp [ints, turnTo_len]; exact hjl) rfl) ?_
      refine Ol.nil ?_
      refine Cd.region ?_
      refine Ol.p mvi ?_
      refine Ol.p addi ?_
      refine Ol.p asi ?_
      refine Ol.nil ?_
      refine ⟨G.params.length - (j + 1), by omega, j + 1, rfl, by omega, ⟨rfl, rfl, rfl, rfl, trivial⟩, ?_⟩
      rw [← turnTo_set hn]
      unfold ints
      rw [List.map_set]
      rfl
    have hje : j = G.params.length := by
      simp only [decide_eq_false_iff_not] at h; omega
    refine Cd.exit (id := 0) ⟨⟨rfl, rfl, rfl, trivial⟩, ?_⟩
    rw [hje, turnTo_all, hG1]
    have e1 : (RFun.cells { G with params := G.params.map r }) = G.cells := by simp [RFun.cells]
    have e2 : funRes { G with params := G.params.map r } = row (.slice G.pA G.params.length G.pC) 3 1 G.params.length (ints (G.params.map r)) :: blkRow G :: G.blocks.flatMap blkRes := by
      unfold funRes
      congr 1
      unfold prmRow
      simp
    rw [e1, e2]
    rfl
  rintro σ' _ ⟨hs', rfl⟩
  refine Cd.has hs' ?_
  clear hs'
  have hG1c : G1.blocks = G.blocks := by rw [hG1]
  -- block by block
  refine Cd.mid (fun σ' L' => Has σ' [(2, .pointer (some ⟨g2, 0, none⟩)), (5, .pointer (some ⟨g5, 0, none⟩)), (6, .int .i64 (kk : Int))] ∧ [blk g5 (.cells (renF r G).cells.toArray 43), blk g2 (.cells f.cells.toArray 43)] ++ funRes (renF r G) = L') ?_ ?_
  · refine Cd.seq ?_
    refine Cd.region ?_
    refine Ol.p asi ?_
    refine Ol.nil ?_
    refine Cd.block ?_
    have h0 : G1.with (turnTo (renB r) G1.blocks 0) = G1 := by rw [turnTo_zero]; rfl
    refine Cd.loop (fun m σ L => ∃ b, m = G1.blocks.length - b ∧ b ≤ G1.blocks.length ∧ Has σ [(2, .pointer (some ⟨g2, 0, none⟩)), (5, .pointer (some ⟨g5, 0, none⟩)), (6, .int .i64 (kk : Int)), (8, .int .i64 b)] ∧ [blk g5 (.cells G1.cells.toArray 43), blk g2 (.cells f.cells.toArray 43)] ++ funRes (G1.with (turnTo (renB r) G1.blocks b)) = L) (n := G1.blocks.length) ⟨0, rfl, Nat.zero_le _, ⟨rfl, rfl, rfl, rfl, trivial⟩, by rw [h0]⟩ ?_
    rintro _ σ L ⟨b, rfl, hb, hs, rfl⟩
    refine Cd.has hs ?_
    clear hs
    refine Cd.seq ?_
    refine Cd.seq ?_
    refine Cd.region ?_
    refine Ol.p mvi ?_
    refine Ol.p (fdl fd_api_Func_1) ?_
    refine Ol.p (ld (v := .slice G1.bA G1.blocks.length G1.bC) one_L_api_Block (Rd.blk (i := 0) rfl rfl)) ?_
    refine Ol.p (lens sl_L_api_Block) ?_
    refine Ol.p lsi ?_
    refine Ol.nil ?_
    refine Cd.cond rfl (fun h => ?_) (fun h => ?_)
    · have hbl : b < G1.blocks.length := by
        simp only [decide_eq_true_eq] at h; omega
      obtain ⟨x, hx⟩ : ∃ x, G1.blocks[b]? = some x := ⟨_, List.getElem?_eq_getElem hbl⟩
      have hxG : x ∈ G.blocks := by rw [← hG1c]; exact List.mem_of_getElem? hx
      obtain ⟨Gb, hGb⟩ : ∃ Gb, Gb = G1.with (turnTo (renB r) G1.blocks b) := ⟨_, rfl⟩
      have hxil := hGc.ilen x hxG
      have hG1l : G1.blocks.length = G.blocks.length := by rw [hG1c]
      have hbA : Gb.bA = G1.bA ∧ Gb.bC = G1.bC := by rw [hGb]; exact ⟨rfl, rfl⟩
      have hblen : Gb.blocks.length = G1.blocks.length := by rw [hGb]; exact turnTo_len _ _ _
      have hxb : Gb.blocks[b]? = some x := by rw [hGb]; exact turnTo_get hx
      have hbl2 : b < Gb.blocks.length := by omega
      have hrowb : (funRes Gb)[1]? = some (row (.slice G1.bA Gb.blocks.length G1.bC) 50 5 Gb.blocks.length (Gb.blocks.flatMap RBlk.cells)) := by
        show some (blkRow Gb) = _
        unfold blkRow
        rw [hbA.1, hbA.2]
      rw [← hGb]
      -- Gb, its block b another one
      obtain ⟨S, hS⟩ : ∃ S : RBlk → RFun, S = fun z => Gb.with (Gb.blocks.set b z) := ⟨_, rfl⟩
      have hSb : ∀ z, (S z).blocks[b]? = some z := fun z => by rw [hS]; simp [RFun.with, hbl2]
      have hSx : S x = Gb := by rw [hS]; show Gb.with _ = _; rw [set_self hxb]; rfl
      have hSS : ∀ z z', (S z).with ((S z).blocks.set b z') = S z' := fun z z' => by rw [hS]; simp [RFun.with]
      have hSA : ∀ z, (S z).bA = G1.bA ∧ (S z).bC = G1.bC ∧ (S z).blocks.length = G1.blocks.length := fun z => by rw [hS]; exact ⟨hbA.1, hbA.2, by simp [RFun.with, hblen]⟩
      refine Cd.skip ?_
      refine Cd.seq ?_
      refine Cd.block ?_
      refine Cd.seq ?_
      refine Cd.region ?_
      refine Ol.p (fdl fd_api_Func_1) ?_
      refine Ol.p (ld (v := .slice G1.bA G1.blocks.length G1.bC) one_L_api_Block (Rd.blk (i := 0) rfl rfl)) ?_
      refine Ol.p mvi ?_
      refine Ol.p (ixn (ix := b) sl_L_api_Block (Som.row (i := 1 + 2) hrowb (by omega))) ?_
      refine Ol.p (ldr (es := x.cells) ag_api_Block (i := 1 + 2) hrowb x.len (fun j u hu => blk_cell hxb hu)) ?_
      refine Ol.x (alc zr_api_Block) ?_
      rintro _ _ ⟨g9, rfl, rfl⟩
      refine Ol.s (stw (vs := x.cells.toArray) sz_api_Block rfl x.one (i := 0) rfl rfl) ?_
      refine Ol.nil ?_
      rw [← hSx]
      -- instruction by instruction
      refine Cd.mid (fun σ' L' => Has σ' [(2, .pointer (some ⟨g2, 0, none⟩)), (5, .pointer (some ⟨g5, 0, none⟩)), (6, .int .i64 (kk : Int)), (8, .int .i64 b), (9, .pointer (some ⟨g9, 0, none⟩))] ∧ [blk g9 (.cells x.cells.toArray 50), blk g5 (.cells G1.cells.toArray 43), blk g2 (.cells f.cells.toArray 43)] ++ funRes (S { x with ins := x.ins.map (renI r) }) = L') ?_ ?_
      · refine Cd.seq ?_
        refine Cd.region ?_
        refine Ol.p asi ?_
        refine Ol.nil ?_
        refine Cd.block ?_
        have hq0 : ({ x with ins := turnTo (renI r) x.ins 0 } : RBlk) = x := by rw [turnTo_zero]
        refine Cd.loop (fun m σ L => ∃ q, m = x.ins.length - q ∧ q ≤ x.ins.length ∧ Has σ [(2, .pointer (some ⟨g2, 0, none⟩)), (5, .pointer (some ⟨g5, 0, none⟩)), (6, .int .i64 (kk : Int)), (8, .int .i64 b), (9, .pointer (some ⟨g9, 0, none⟩)), (10, .int .i64 q)] ∧ [blk g9 (.cells x.cells.toArray 50), blk g5 (.cells G1.cells.toArray 43), blk g2 (.cells f.cells.toArray 43)] ++ funRes (S { x with ins := turnTo (renI r) x.ins q }) = L) (n := x.ins.length) ⟨0, rfl, Nat.zero_le _, ⟨rfl, rfl, rfl, rfl, rfl, rfl, trivial⟩, by rw [hq0]; rfl⟩ ?_
        rintro _ σ L ⟨q, rfl, hq, hs, rfl⟩
        refine Cd.has hs ?_
        clear hs
        refine Cd.seq ?_
        refine Cd.seq ?_
        refine Cd.region ?_
        refine Ol.p mvi ?_
        refine Ol.p (fdl fd_api_Block_0) ?_
        refine Ol.p (ld (v := .slice x.iA x.ins.length x.iC) one_L_api_Ins (Rd.blk (i := 0) rfl rfl)) ?_
        refine Ol.p (lens sl_L_api_Ins) ?_
        refine Ol.p lsi ?_
        refine Ol.nil ?_
        refine Cd.cond rfl (fun h2 => ?_) (fun h2 => ?_)
        · have hql : q < x.ins.length := by
            simp only [decide_eq_true_eq] at h2; omega
          obtain ⟨i, hi⟩ : ∃ i, x.ins[q]? = some i := ⟨_, List.getElem?_eq_getElem hql⟩
          have him := List.mem_of_getElem? hi
          have hir := hGc.insr x hxG i him
          have har := hGc.argr x hxG i him
          obtain ⟨T, hTT⟩ : ∃ T, T = turnTo (renI r) x.ins q := ⟨_, rfl⟩
          have hTl : T.length = x.ins.length := by rw [hTT]; exact turnTo_len _ _ _
          have hTi : T[q]? = some i := by rw [hTT]; exact turnTo_get hi
          have hTset : ∀ i', (T.set q i')[q]? = some i' := fun i' => by simp [hTl, hql]
          have hTs : T.set q i = T := set_self hTi
          rw [← hTT]
          obtain ⟨F, hF⟩ : ∃ F : RIns → RFun, F = fun i' => S { x with ins := T.set q i' } := ⟨_, rfl⟩
          have hFi : S { x with ins := T } = F i := by rw [hF]; show _ = S { x with ins := T.set q i }; rw [hTs]
          -- a cell of the instruction is written
          have hst : ∀ (i' i'' : RIns) (c : Nat) (v : Value), c < 8 → i''.cells = i'.cells.set c v → insRes i'' = insRes i' → ∃ j, (funRes (F i'))[j]? = some (row (.slice x.iA x.ins.length x.iC) 25 8 x.ins.length ((T.set q i').flatMap RIns.cells)) ∧ (funRes (F i')).set j (row (.slice x.iA x.ins.length x.iC) 25 8 x.ins.length (((T.set q i').flatMap RIns.cells).set (q * 8 + c) v)) = funRes (F i'') := fun i' i'' c v hc h3 h4 => by
            obtain ⟨j, hj, hset⟩ := own_ins (hSb { x with ins := T.set q i' })
            have hl : ({ x with ins := T.set q i' } : RBlk).ins.length = x.ins.length := by simp [hTl]
            have hc1 : ((T.set q i').flatMap RIns.cells).set (q * 8 + c) v = (T.set q i'').flatMap RIns.cells := by
              rw [flat_set_at RIns.len hc h3 (hTset i'), List.set_set]
            have hm : (T.set q i'').map insRes = (T.set q i').map insRes := by rw [List.map_set, List.map_set, h4]
            have h5 := hset (T.set q i'') (by simp) hm
            rw [hSS] at h5
            refine ⟨j, ?_, ?_⟩
            · rw [hF]
              refine hj.trans ?_
              unfold insRow
              simp only [hl]
            · rw [hF, hc1]
              simp only [hl] at h5
              exact h5
          have harg : ∀ (i' : RIns) (ls : List Int), ls.length = i'.args.length → ∃ j, (funRes (F i'))[j]? = some (insRes i') ∧ (funRes (F i')).set j (row (.slice i'.aA i'.args.length i'.aC) 3 1 i'.args.length (ints ls)) = funRes (F { i' with args := ls }) := fun i' ls h3 => by
            obtain ⟨j, hj, hset⟩ := own_args (hSb { x with ins := T.set q i' }) (hTset i')
            have h5 := hset ls h3
            rw [hSS] at h5
            simp only [List.set_set] at h5
            exact ⟨j, by rw [hF]; exact hj, by rw [hF]; exact h5⟩
          rw [hFi]
          refine Cd.skip ?_
          refine Cd.seq ?_
          refine Cd.block ?_
          obtain ⟨j1, hj1, hs1⟩ := hst i { i with dst := r i.dst } 1 (.int .i64 (r i.dst)) (by decide) rfl rfl
          refine Cd.seq ?_
          refine Cd.draw mixed 13 (exIs (fun opNo => match opNo with | 10 => some (.int .i64 (r i.dst)) | _ => none)) (fun _ => []) (by kernel_rfl) exIs_in (fun u hu => ?_)
          refine Wk.p (fdl fd_api_Block_0) ?_
          refine Wk.p (ld (v := .slice x.iA x.ins.length x.iC) one_L_api_Ins (Rd.blk (i := 0) rfl rfl)) ?_
          refine Wk.p mvi ?_
          refine Wk.p (fdl fd_api_Block_0) ?_
          refine Wk.p (ld (v := .slice x.iA x.ins.length x.iC) one_L_api_Ins (Rd.blk (i := 0) rfl rfl)) ?_
          refine Wk.p mvi ?_
          refine Wk.p (ixn (ix := q) sl_L_api_Ins (Som.row (i := j1 + 3) hj1 (by omega))) ?_
          refine Wk.p (fdp fd_api_Ins_1) ?_
          refine Wk.p (ld (v := .int .i64 i.dst) one_int (Rd.row (i := j1 + 3) hj1 (ins_cell (j := 1) (hTset _) rfl))) ?_
          refine Wk.p mvi ?_
          refine Wk.dk hu (sp_call en_law03_renamed (fun M w' hh => hren i.dst (hir _ (by simp)) w')) ?_
          refine Wk.p (ixn (ix := q) sl_L_api_Ins (Som.row (i := j1 + 3) hj1 (by omega))) ?_
          refine Wk.p (fdp fd_api_Ins_1) ?_
          refine Wk.nil ?_
          rw [needs_exIs hu rfl]
          refine Ol.s (str (v := .int .i64 (r i.dst)) (k := q * 8 + 1) sz_int rfl rfl (i := j1 + 3) hj1 (by rw [flat_len RIns.len, List.length_set, hTl]; omega) rfl) ?_
          refine Ol.nil ?_
          refine Cd.keep (L' := [blk g9 (.cells x.cells.toArray 50), blk g5 (.cells G1.cells.toArray 43), blk g2 (.cells f.cells.toArray 43)] ++ funRes (F { i with dst := r i.dst })) (by rw [← hs1]; exact .all) ?_
          obtain ⟨j2, hj2, hs2⟩ := hst { i with dst := r i.dst } { i with dst := r i.dst, a := r i.a } 2 (.int .i64 (r i.a)) (by decide) rfl rfl
          refine Cd.seq ?_
          refine Cd.draw mixed 13 (exIs (fun opNo => match opNo with | 10 => some (.int .i64 (r i.a)) | _ => none)) (fun _ => []) (by kernel_rfl) exIs_in (fun u hu => ?_)
          refine Wk.p (fdl fd_api_Block_0) ?_
          refine Wk.p (ld (v := .slice x.iA x.ins.length x.iC) one_L_api_Ins (Rd.blk (i := 0) rfl rfl)) ?_
          refine Wk.p mvi ?_
          refine Wk.p (fdl fd_api_Block_0) ?_
          refine Wk.p (ld (v := .slice x.iA x.ins.length x.iC) one_L_api_Ins (Rd.blk (i := 0) rfl rfl)) ?_
          refine Wk.p mvi ?_
          refine Wk.p (ixn (ix := q) sl_L_api_Ins (Som.row (i := j2 + 3) hj2 (by omega))) ?_
          refine Wk.p (fdp fd_api_Ins_2) ?_
          refine Wk.p (ld (v := .int .i64 i.a) one_int (Rd.row (i := j2 + 3) hj2 (ins_cell (j := 2) (hTset _) rfl))) ?_
          refine Wk.p mvi ?_
          refine Wk.dk hu (sp_call en_law03_renamed (fun M w' hh => hren i.a (hir _ (by simp)) w')) ?_
          refine Wk.p (ixn (ix := q) sl_L_api_Ins (Som.row (i := j2 + 3) hj2 (by omega))) ?_
          refine Wk.p (fdp fd_api_Ins_2) ?_
          refine Wk.nil ?_
          rw [needs_exIs hu rfl]
          refine Ol.s (str (v := .int .i64 (r i.a)) (k := q * 8 + 2) sz_int rfl rfl (i := j2 + 3) hj2 (by rw [flat_len RIns.len, List.length_set, hTl]; omega) rfl) ?_
          refine Ol.nil ?_
          refine Cd.keep (L' := [blk g9 (.cells x.cells.toArray 50), blk g5 (.cells G1.cells.toArray 43), blk g2 (.cells f.cells.toArray 43)] ++ funRes (F { i with dst := r i.dst, a := r i.a })) (by rw [← hs2]; exact .all) ?_
          obtain ⟨j3, hj3, hs3⟩ := hst { i with dst := r i.dst, a := r i.a } { i with dst := r i.dst, a := r i.a, b := r i.b } 3 (.int .i64 (r i.b)) (by decide) rfl rfl
          refine Cd.seq ?_
          refine Cd.draw mixed 13 (exIs (fun opNo => match opNo with | 10 => some (.int .i64 (r i.b)) | _ => none)) (fun _ => []) (by kernel_rfl) exIs_in (fun u hu => ?_)
          refine Wk.p (fdl fd_api_Block_0) ?_
          refine Wk.p (ld (v := .slice x.iA x.ins.length x.iC) one_L_api_Ins (Rd.blk (i := 0) rfl rfl)) ?_
          refine Wk.p mvi ?_
          refine Wk.p (fdl fd_api_Block_0) ?_
          refine Wk.p (ld (v := .slice x.iA x.ins.length x.iC) one_L_api_Ins (Rd.blk (i := 0) rfl rfl)) ?_
          refine Wk.p mvi ?_
          refine Wk.p (ixn (ix := q) sl_L_api_Ins (Som.row (i := j3 + 3) hj3 (by omega))) ?_
          refine Wk.p (fdp fd_api_Ins_3) ?_
          refine Wk.p (ld (v := .int .i64 i.b) one_int (Rd.row (i := j3 + 3) hj3 (ins_cell (j := 3) (hTset _) rfl))) ?_
          refine Wk.p mvi ?_
          refine Wk.dk hu (sp_call en_law03_renamed (fun M w' hh => hren i.b (hir _ (by simp)) w')) ?_
          refine Wk.p (ixn (ix := q) sl_L_api_Ins (Som.row (i := j3 + 3) hj3 (by omega))) ?_
          refine Wk.p (fdp fd_api_Ins_3) ?_
          refine Wk.nil ?_
          rw [needs_exIs hu rfl]
          refine Ol.s (str (v := .int .i64 (r i.b)) (k := q * 8 + 3) sz_int rfl rfl (i := j3 + 3) hj3 (by rw [flat_len RIns.len, List.length_set, hTl]; omega) rfl) ?_
          refine Ol.nil ?_
          refine Cd.keep (L' := [blk g9 (.cells x.cells.toArray 50), blk g5 (.cells G1.cells.toArray 43), blk g2 (.cells f.cells.toArray 43)] ++ funRes (F { i with dst := r i.dst, a := r i.a, b := r i.b })) (by rw [← hs3]; exact .all) ?_
          obtain ⟨i3, hi3⟩ : ∃ i3 : RIns, i3 = { i with dst := r i.dst, a := r i.a, b := r i.b } := ⟨_, rfl⟩
          rw [← hi3]
          have hi3a : i3.aA = i.aA ∧ i3.aC = i.aC ∧ i3.args = i.args := by rw [hi3]; exact ⟨rfl, rfl, rfl⟩
          have hfin : { i3 with args := i.args.map r } = renI r i := by rw [hi3]; rfl
          refine Cd.seq ?_
          refine Cd.region ?_
          refine Ol.p asi ?_
          refine Ol.nil ?_
          refine Cd.block ?_
          have hm0 : ({ i3 with args := turnTo r i.args 0 } : RIns) = i3 := by rw [turnTo_zero, ← hi3a.2.2]
          refine Cd.loop (fun m σ L => ∃ p, m = i.args.length - p ∧ p ≤ i.args.length ∧ Has σ [(2, .pointer (some ⟨g2, 0, none⟩)), (5, .pointer (some ⟨g5, 0, none⟩)), (6, .int .i64 (kk : Int)), (8, .int .i64 b), (9, .pointer (some ⟨g9, 0, none⟩)), (10, .int .i64 q), (11, .int .i64 p)] ∧ [blk g9 (.cells x.cells.toArray 50), blk g5 (.cells G1.cells.toArray 43), blk g2 (.cells f.cells.toArray 43)] ++ funRes (F { i3 with args := turnTo r i.args p }) = L) (n := i.args.length) ⟨0, rfl, Nat.zero_le _, ⟨rfl, rfl, rfl, rfl, rfl, rfl, rfl, trivial⟩, by rw [hm0]⟩ ?_
          rintro _ σ L ⟨p, rfl, hp, hs, rfl⟩
          refine Cd.has hs ?_
          clear hs
          obtain ⟨ip, hip⟩ : ∃ ip : RIns, ip = { i3 with args := turnTo r i.args p } := ⟨_, rfl⟩
          have hipa : ip.aA = i.aA ∧ ip.aC = i.aC ∧ ip.args = turnTo r i.args p := by rw [hip]; exact ⟨hi3a.1, hi3a.2.1, rfl⟩
          have hipl : ip.args.length = i.args.length := by rw [hipa.2.2]; exact turnTo_len _ _ _
          have hipc : ip.cells[6]? = some (.slice i.aA i.args.length i.aC) := by
            show some (Value.slice ip.aA ip.args.length ip.aC) = _
            rw [hipl, hipa.1, hipa.2.1]
          have hcell := ins_cell (j := 6) (hTset ip) hipc
          obtain ⟨ji, hji, _⟩ := hst ip ip 0 (.int .i64 ip.op) (by decide) rfl rfl
          have hal := hGc.alen x hxG i him
          rw [← hip]
          refine Cd.seq ?_
          refine Cd.seq ?_
          refine Cd.region ?_
          refine Ol.p mvi ?_
          refine Ol.p (fdl fd_api_Block_0) ?_
          refine Ol.p (ld (v := .slice x.iA x.ins.length x.iC) one_L_api_Ins (Rd.blk (i := 0) rfl rfl)) ?_
          refine Ol.p mvi ?_
          refine Ol.p (ixn (ix := q) sl_L_api_Ins (Som.row (i := ji + 3) hji (by omega))) ?_
          refine Ol.p (fdp fd_api_Ins_6) ?_
          refine Ol.p (ld (v := .slice i.aA i.args.length i.aC) one_L_int (Rd.row (i := ji + 3) hji hcell)) ?_
          refine Ol.p (lens sl_L_int) ?_
          refine Ol.p lsi ?_
          refine Ol.nil ?_
          refine Cd.cond rfl (fun h3 => ?_) (fun h3 => ?_)
          · have hpl2 : p < i.args.length := by
              simp only [decide_eq_true_eq] at h3; omega
            obtain ⟨n, hn⟩ : ∃ n, i.args[p]? = some n := ⟨_, List.getElem?_eq_getElem hpl2⟩
            have hnr := har n (List.mem_of_getElem? hn)
            obtain ⟨ja, hja, hsa⟩ := harg ip (turnTo r i.args (p + 1)) (by rw [hipl, turnTo_len])
            have hja2 : (funRes (F ip))[ja]? = some (row (.slice i.aA i.args.length i.aC) 3 1 i.args.length (ints (turnTo r i.args p))) := by
              rw [hja]
              unfold insRes
              rw [hipl, hipa.1, hipa.2.1, hipa.2.2]
            have hnext : ({ ip with args := turnTo r i.args (p + 1) } : RIns) = { i3 with args := turnTo r i.args (p + 1) } := by rw [hip]
            rw [hnext, hipl, hipa.1, hipa.2.1] at hsa
            have hset : (ints (turnTo r i.args p)).set p (.int .i64 (r n)) = ints (turnTo r i.args (p + 1)) := by
              rw [← turnTo_set hn]
              unfold ints
              rw [List.map_set]
            refine Cd.skip ?_
            refine Cd.seq ?_
            refine Cd.block ?_
            refine Cd.draw mixed 19 (exIs (fun opNo => match opNo with | 17 => some (.int .i64 (r n)) | _ => none)) (fun _ => []) (by kernel_rfl) exIs_in (fun u hu => ?_)
            refine Wk.p (fdl fd_api_Block_0) ?_
            refine Wk.p (ld (v := .slice x.iA x.ins.length x.iC) one_L_api_Ins (Rd.blk (i := 0) rfl rfl)) ?_
            refine Wk.p mvi ?_
            refine Wk.p (ixn (ix := q) sl_L_api_Ins (Som.row (i := ji + 3) hji (by omega))) ?_
            refine Wk.p (fdp fd_api_Ins_6) ?_
            refine Wk.p (ld (v := .slice i.aA i.args.length i.aC) one_L_int (Rd.row (i := ji + 3) hji hcell)) ?_
            refine Wk.p mvi ?_
            refine Wk.p (fdl fd_api_Block_0) ?_
            refine Wk.p (ld (v := .slice x.iA x.ins.length x.iC) one_L_api_Ins (Rd.blk (i := 0) rfl rfl)) ?_
            refine Wk.p mvi ?_
            refine Wk.p (ixn (ix := q) sl_L_api_Ins (Som.row (i := ji + 3) hji (by omega))) ?_
            refine Wk.p (fdp fd_api_Ins_6) ?_
            refine Wk.p (ld (v := .slice i.aA i.args.length i.aC) one_L_int (Rd.row (i := ji + 3) hji hcell)) ?_
            refine Wk.p mvi ?_
            refine Wk.p (ixn1 (ix := p) sl_L_int (Som.row (i := ja + 3) hja2 (by omega))) ?_
            refine Wk.p (ld one_int (Rd.row (i := ja + 3) hja2 (ints_at (turnTo_get hn)))) ?_
            refine Wk.p mvi ?_
            refine Wk.dk hu (sp_call en_law03_renamed (fun M w' hh => hren n hnr w')) ?_
            refine Wk.p (ixn1 (ix := p) sl_L_int (Som.row (i := ja + 3) hja2 (by omega))) ?_
            refine Wk.nil ?_
            rw [needs_exIs hu rfl]
            refine Ol.s (str (v := .int .i64 (r n)) (k := p) sz_int rfl rfl (i := ja + 3) hja2 (by simp [ints, turnTo_len]; exact hpl2) rfl) ?_
            refine Ol.nil ?_
            rw [hset]
            refine Cd.keep (L' := [blk g9 (.cells x.cells.toArray 50), blk g5 (.cells G1.cells.toArray 43), blk g2 (.cells f.cells.toArray 43)] ++ funRes (F { i3 with args := turnTo r i.args (p + 1) })) (by rw [← hsa]; exact .all) ?_
            refine Cd.region ?_
            refine Ol.p mvi ?_
            refine Ol.p addi ?_
            refine Ol.p asi ?_
            refine Ol.nil ?_
            exact ⟨i.args.length - (p + 1), by omega, p + 1, rfl, by omega, ⟨rfl, rfl, rfl, rfl, rfl, rfl, rfl, trivial⟩, rfl⟩
          have hpe : p = i.args.length := by
            simp only [decide_eq_false_iff_not] at h3; omega
          have hFe : F ip = S { x with ins := turnTo (renI r) x.ins (q + 1) } := by
            rw [hip, hpe, turnTo_all, hfin, hF, ← turnTo_set hi, ← hTT]
          rw [hFe]
          refine Cd.exit (id := 6) ?_
          refine Cd.region ?_
          refine Ol.p mvi ?_
          refine Ol.p addi ?_
          refine Ol.p asi ?_
          refine Ol.nil ?_
          exact ⟨x.ins.length - (q + 1), by omega, q + 1, rfl, by omega, ⟨rfl, rfl, rfl, rfl, rfl, rfl, trivial⟩, rfl⟩
        have hqe : q = x.ins.length := by
          simp only [decide_eq_false_iff_not] at h2; omega
        refine Cd.exit (id := 4) ⟨⟨rfl, rfl, rfl, rfl, rfl, trivial⟩, ?_⟩
        rw [hqe, turnTo_all]
      rintro σ' _ ⟨hs', rfl⟩
      refine Cd.has hs' ?_
      clear hs'
      obtain ⟨z, hz⟩ : ∃ z : RBlk, z = { x with ins := x.ins.map (renI r) } := ⟨_, rfl⟩
      rw [← hz]
      have hzr : blkRes (renB r x) = blkRes z := by rw [hz]; rfl
      have hzc : RBlk.cells (renB r x) = z.cells.set 2 (.int .i64 (r x.term.a)) := by rw [hz]; rfl
      have hown := own_blk (hSb z) hzr
      rw [hSS, ← flat_set_at RBlk.len (c := 2) (by decide) hzc (hSb z), (hSA z).1, (hSA z).2.1, (hSA z).2.2] at hown
      have hrow : (funRes (S z))[1]? = some (row (.slice G1.bA G1.blocks.length G1.bC) 50 5 G1.blocks.length ((S z).blocks.flatMap RBlk.cells)) := by
        show some (blkRow (S z)) = _
        unfold blkRow
        rw [(hSA z).1, (hSA z).2.1, (hSA z).2.2]
      have htr := hGc.term x hxG x.term.a (by simp)
      refine Cd.draw mixed 11 (exIs (fun opNo => match opNo with | 7 => some (.int .i64 (r x.term.a)) | _ => none)) (fun _ => []) (by kernel_rfl) exIs_in (fun u hu => ?_)
      refine Wk.p (fdl fd_api_Func_1) ?_
      refine Wk.p (ld (v := .slice G1.bA G1.blocks.length G1.bC) one_L_api_Block (Rd.blk (i := 1) rfl rfl)) ?_
      refine Wk.p mvi ?_
      refine Wk.p (fdl fd_api_Block_1) ?_
      refine Wk.p (fdl fd_api_Term_1) ?_
      refine Wk.p (ld (v := .int .i64 x.term.a) one_int (Rd.blk (i := 0) rfl rfl)) ?_
      refine Wk.p mvi ?_
      refine Wk.dk hu (sp_call en_law03_renamed (fun M w' hh => hren x.term.a htr w')) ?_
      refine Wk.p (ixn (ix := b) sl_L_api_Block (Som.row (i := 1 + 3) hrow (by omega))) ?_
      refine Wk.p (fdp fd_api_Block_1) ?_
      refine Wk.p (fdp fd_api_Term_1) ?_
      refine Wk.nil ?_
      rw [needs_exIs hu rfl]
      refine Ol.s (str (v := .int .i64 (r x.term.a)) (k := b * 5 + 2) sz_int rfl rfl (i := 1 + 3) hrow (by rw [flat_len RBlk.len, (hSA z).2.2]; omega) rfl) ?_
      refine Ol.nil ?_
      have hGn : S (renB r x) = G1.with (turnTo (renB r) G1.blocks (b + 1)) := by
        rw [← turnTo_set hx, hS, hGb]; rfl
      refine Cd.keep (L' := [blk g5 (.cells G1.cells.toArray 43), blk g2 (.cells f.cells.toArray 43)] ++ funRes (G1.with (turnTo (renB r) G1.blocks (b + 1)))) (by rw [← hGn, ← hown]; exact .sub (.cons _ (List.Sublist.refl _))) ?_
      refine Cd.region ?_
      refine Ol.p mvi ?_
      refine Ol.p addi ?_
      refine Ol.p asi ?_
      refine Ol.nil ?_
      exact ⟨G1.blocks.length - (b + 1), by omega, b + 1, rfl, by omega, ⟨rfl, rfl, rfl, rfl, trivial⟩, rfl⟩
    have hbe : b = G1.blocks.length := by
      simp only [decide_eq_false_iff_not] at h; omega
    have hGe : G1.with (turnTo (renB r) G1.blocks b) = renF r G := by
      rw [hbe, turnTo_all, hG1]; rfl
    have hGce : G1.cells = (renF r G).cells := by rw [hG1]; simp [RFun.cells, renF]
    rw [hGe, hGce]
    exact Cd.exit (id := 2) ⟨⟨rfl, rfl, rfl, trivial⟩, rfl⟩
  rintro σ' _ ⟨hs', rfl⟩
  refine Cd.has hs' ?_
  clear hs'
  obtain ⟨g, hg⟩ : ∃ g, g = renF r G := ⟨_, rfl⟩
  have hgc : FitC g := by rw [hg]; exact hGc.ren hrr
  have e1 : rightF g = rightF f := by rw [hg, rightF_ren hR]; exact rightF_same hG
  have e2 : mostF g = mostF f := by rw [hg, mostF_ren hR, ← mostF_bare, hG, mostF_bare]
  have e3 : sizeF g = sizeF f := by rw [hg, sizeF_ren hR, ← sizeF_bare, hG, sizeF_bare]
  have e4 : varsF G = varsF f := by rw [← varsF_bare, hG, varsF_bare]
  have e5 : (varsF g).length = (varsF f).length := by rw [hg, varsF_len_ren hR, e4]
  have e6 : ∀ v ∈ varsF f, rN v ∈ varsF g := fun v hv => by rw [hg]; exact varsF_mem_ren hR (by rw [e4]; exact hv)
  rw [← hg]
  have hvl : (varsF f).length < 2 ^ 20 := by
    unfold varsF
    split
    · have := varsTo_len (putsV noS (noteF f) true) 200; omega
    · simp
  have hv64 : ∀ v ∈ varsF f, v ≤ 200 := fun v hv => by have := (mem_varsF.1 hv).2.1; omega
  refine Cd.seq ?_
  refine Cd.region ?_
  refine Ol.p (ldw ag_api_Func (i := 1) rfl rfl) ?_
  refine Ol.s (cl en_ir_Most (fun M w' hh => ir_Most_ct (hf.now hh) hfit)) ?_
  refine Ol.p mvt ?_
  refine Ol.p extv ?_
  refine Ol.p extv ?_
  refine Ol.p asi ?_
  refine Ol.p asi ?_
  refine Ol.nil ?_
  refine Cd.seq ?_
  refine Cd.region ?_
  refine Ol.p (ldw ag_api_Func (i := 0) rfl rfl) ?_
  refine Ol.s (cl (v := .tuple #[.int .i64 ((mostF f).1 : Nat), .int .i64 ((mostF f).2 : Nat)]) en_ir_Most (fun M w' hh => by rw [← e2]; exact ir_Most_ct (FunAt.own hh (fun r hr => List.mem_cons_of_mem _ (List.mem_cons_of_mem _ hr))) (hgc.fit hh (fun r hr => List.mem_cons_of_mem _ (List.mem_cons_of_mem _ hr))))) ?_
  refine Ol.p mvt ?_
  refine Ol.p extv ?_
  refine Ol.p extv ?_
  refine Ol.p asi ?_
  refine Ol.p asi ?_
  refine Ol.nil ?_
  refine Cd.seq ?_
  refine Cd.draw mixed 4 (fun opNo => match opNo with | 1 => some (NewL 3 1 (varsF f).length (intsN (varsF f))) | 3 => some (NewL 3 1 (varsF g).length (intsN (varsF g))) | _ => none) (fun _ => []) (by kernel_rfl) (by intro q V h; split at h <;> cases h; exact ⟨_, _, none, 0, rfl, rfl⟩; exact ⟨_, _, none, 0, rfl, rfl⟩) (fun u hu => ?_)
  refine Wk.p (ldw ag_api_Func (i := 1) rfl rfl) ?_
  refine Wk.x (V := NewL 3 1 (varsF f).length (intsN (varsF f))) hu (sp_call en_ir_Vars (fun M w' hh => ir_Vars_ct (hf.now hh) hfit)) ?_
  rintro _ _ hu1 ⟨A158, c158, rfl, rfl⟩
  refine Wk.p (ldw ag_api_Func (i := 0) rfl rfl) ?_
  refine Wk.x (V := NewL 3 1 (varsF g).length (intsN (varsF g))) hu (sp_call en_ir_Vars (fun M w' hh => ir_Vars_ct (FunAt.own hh (fun r hr => List.mem_cons_of_mem _ (List.mem_cons_of_mem _ hr))) (hgc.fit hh (fun r hr => List.mem_cons_of_mem _ (List.mem_cons_of_mem _ hr))))) ?_
  rintro _ _ hu3 ⟨A160, c160, rfl, rfl⟩
  refine Wk.nil ?_
  rw [needs_cons hu3, needs_cons hu1, needs_none]
  refine Ol.p ass ?_
  refine Ol.p ass ?_
  refine Ol.nil ?_
  refine Cd.mid (fun σ' L' => ∃ A1 c1 A2 c2, Has σ' [(2, .pointer (some ⟨g2, 0, none⟩)), (5, .pointer (some ⟨g5, 0, none⟩)), (12, .int .i64 ((mostF f).1 : Nat)), (13, .int .i64 ((mostF f).2 : Nat)), (14, .int .i64 ((mostF f).1 : Nat)), (15, .int .i64 ((mostF f).2 : Nat)), (16, .slice A1 (varsF f).length c1), (17, .slice A2 (varsF g).length c2)] ∧ [row (.slice A2 (varsF g).length c2) 3 1 (varsF g).length (intsN (varsF g)), row (.slice A1 (varsF f).length c1) 3 1 (varsF f).length (intsN (varsF f)), blk g5 (.cells g.cells.toArray 43), blk g2 (.cells f.cells.toArray 43)] ++ funRes g = L') ?_ ?_
  · refine Cd.seq ?_
    refine Cd.region ?_
    refine Ol.p asi ?_
    refine Ol.nil ?_
    refine Cd.block ?_
    obtain ⟨L0, hL0⟩ : ∃ L0, L0 = [row (.slice A160 (varsF g).length c160) 3 1 (varsF g).length (intsN (varsF g)), row (.slice A158 (varsF f).length c158) 3 1 (varsF f).length (intsN (varsF f)), blk g5 (.cells g.cells.toArray 43), blk g2 (.cells f.cells.toArray 43)] ++ funRes g := ⟨_, rfl⟩
    refine Cd.loop (fun m σ L => ∃ p, m = (varsF f).length - p ∧ p ≤ (varsF f).length ∧ Has σ [(2, .pointer (some ⟨g2, 0, none⟩)), (5, .pointer (some ⟨g5, 0, none⟩)), (6, .int .i64 (kk : Int)), (12, .int .i64 ((mostF f).1 : Nat)), (13, .int .i64 ((mostF f).2 : Nat)), (14, .int .i64 ((mostF f).1 : Nat)), (15, .int .i64 ((mostF f).2 : Nat)), (16, .slice A158 (varsF f).length c158), (17, .slice A160 (varsF g).length c160), (18, .int .i64 p)] ∧ L0 = L) (n := (varsF f).length) ⟨0, rfl, Nat.zero_le _, ⟨rfl, rfl, rfl, rfl, rfl, rfl, rfl, rfl, rfl, rfl, trivial⟩, hL0⟩ ?_
    rintro _ σ L ⟨p, rfl, hp, hs, rfl⟩
    refine Cd.has hs ?_
    clear hs
    refine Cd.seq ?_
    refine Cd.seq ?_
    refine Cd.region ?_
    refine Ol.p mvi ?_
    refine Ol.p mvs ?_
    refine Ol.p (lens sl_L_int) ?_
    refine Ol.p lsi ?_
    refine Ol.nil ?_
    refine Cd.cond rfl (fun h => ?_) (fun h => ?_)
    · have hpl3 : p < (varsF f).length := by
        simp only [decide_eq_true_eq] at h; omega
      obtain ⟨v, hv⟩ : ∃ v, (varsF f)[p]? = some v := ⟨_, List.getElem?_eq_getElem hpl3⟩
      have hvm := List.mem_of_getElem? hv
      have hv200 := hv64 v hvm
      refine Cd.skip ?_
      refine Cd.seq ?_
      refine Cd.block ?_
      refine Cd.seq ?_
      refine Cd.region ?_
      refine Ol.p asb ?_
      refine Ol.nil ?_
      -- is it found?
      refine Cd.mid (fun σ' L' => Has σ' [(2, .pointer (some ⟨g2, 0, none⟩)), (5, .pointer (some ⟨g5, 0, none⟩)), (6, .int .i64 (kk : Int)), (12, .int .i64 ((mostF f).1 : Nat)), (13, .int .i64 ((mostF f).2 : Nat)), (14, .int .i64 ((mostF f).1 : Nat)), (15, .int .i64 ((mostF f).2 : Nat)), (16, .slice A158 (varsF f).length c158), (17, .slice A160 (varsF g).length c160), (18, .int .i64 p), (19, .bool true)] ∧ L0 = L') ?_ ?_
      · refine Cd.seq ?_
        refine Cd.region ?_
        refine Ol.p asi ?_
        refine Ol.nil ?_
        refine Cd.block ?_
        refine Cd.loop (fun m σ L => ∃ (n : Nat) (found : Bool), m = (varsF g).length - n ∧ n ≤ (varsF g).length ∧ (found = true ↔ rN v ∈ (varsF g).take n) ∧ Has σ [(2, .pointer (some ⟨g2, 0, none⟩)), (5, .pointer (some ⟨g5, 0, none⟩)), (6, .int .i64 (kk : Int)), (12, .int .i64 ((mostF f).1 : Nat)), (13, .int .i64 ((mostF f).2 : Nat)), (14, .int .i64 ((mostF f).1 : Nat)), (15, .int .i64 ((mostF f).2 : Nat)), (16, .slice A158 (varsF f).length c158), (17, .slice A160 (varsF g).length c160), (18, .int .i64 p), (19, .bool found), (20, .int .i64 n)] ∧ L0 = L) (n := (varsF g).length) ⟨0, false, rfl, Nat.zero_le _, by simp, ⟨rfl, rfl, rfl, rfl, rfl, rfl, rfl, rfl, rfl, rfl, rfl, rfl, trivial⟩, rfl⟩ ?_
        rintro _ σ L ⟨n, found, rfl, hn, hfound, hs, rfl⟩
        refine Cd.has hs ?_
        clear hs
        refine Cd.seq ?_
        refine Cd.seq ?_
        refine Cd.region ?_
        refine Ol.p mvi ?_
        refine Ol.p mvs ?_
        refine Ol.p (lens sl_L_int) ?_
        refine Ol.p lsi ?_
        refine Ol.nil ?_
        refine Cd.cond rfl (fun h2 => ?_) (fun h2 => ?_)
        · have hnl : n < (varsF g).length := by
            simp only [decide_eq_true_eq] at h2; omega
          obtain ⟨un, hun⟩ : ∃ u, (varsF g)[n]? = some u := ⟨_, List.getElem?_eq_getElem hnl⟩
          have htk : (varsF g).take (n + 1) = (varsF g).take n ++ [un] := take_snoc_ hun
          refine Cd.skip ?_
          refine Cd.seq ?_
          refine Cd.block ?_
          rw [hL0]
          cases found with
          | true =>
            refine Cd.draw mixed 14 (fun _ => none) (fun _ => []) (by kernel_rfl) (fun _ _ h => by cases h) (fun u hu => ?_)
            refine Wk.p mvb ?_
            refine Wk.p mvb ?_
            refine Wk.gn rfl ?_
            refine Wk.gn rfl ?_
            refine Wk.gn rfl ?_
            refine Wk.gn rfl ?_
            refine Wk.gn rfl ?_
            refine Wk.gn rfl ?_
            refine Wk.gn rfl ?_
            refine Wk.gn rfl ?_
            refine Wk.gn rfl ?_
            refine Wk.gn rfl ?_
            refine Wk.gn rfl ?_
            refine Wk.p (pkTb rfl) ?_
            refine Wk.nil ?_
            refine Ol.p asb ?_
            refine Ol.nil ?_
            refine Cd.region ?_
            refine Ol.p mvi ?_
            refine Ol.p addi ?_
            refine Ol.p asi ?_
            refine Ol.nil ?_
            exact ⟨(varsF g).length - (n + 1), by omega, n + 1, true, rfl, by omega, by rw [htk, List.mem_append]; exact ⟨fun _ => .inl (hfound.1 rfl), fun _ => rfl⟩, ⟨rfl, rfl, rfl, rfl, rfl, rfl, rfl, rfl, rfl, rfl, rfl, rfl, trivial⟩, rfl⟩
          | false =>
            refine Cd.draw mixed 14 (exIs (fun opNo => match opNo with | 11 => some (.int .i64 (r (v : Int))) | _ => none)) (fun _ => []) (by kernel_rfl) exIs_in (fun u hu => ?_)
            refine Wk.p mvb ?_
            refine Wk.p mvb ?_
            refine Wk.gp rfl mvs ?_
            refine Wk.gp rfl mvi ?_
            refine Wk.gp rfl (ixn1 (ix := n) sl_L_int (Som.row (i := 0) rfl (by omega))) ?_
            refine Wk.gp rfl (ld one_int (Rd.row (i := 0) rfl (intsN_at hun))) ?_
            refine Wk.gp rfl mvs ?_
            refine Wk.gp rfl mvi ?_
            refine Wk.gp rfl (ixn1 (ix := p) sl_L_int (Som.row (i := 1) rfl (by omega))) ?_
            refine Wk.gp rfl (ld one_int (Rd.row (i := 1) rfl (intsN_at hv))) ?_
            refine Wk.gp rfl mvi ?_
            refine Wk.gdk hu rfl (sp_call en_law03_renamed (fun M w' hh => hren (v : Int) (by omega) w')) ?_
            refine Wk.gp rfl eqi ?_
            refine Wk.p (pkFb rfl) ?_
            refine Wk.nil ?_
            rw [needs_exIs hu rfl]
            refine Ol.p asb ?_
            refine Ol.nil ?_
            refine Cd.region ?_
            refine Ol.p mvi ?_
            refine Ol.p addi ?_
            refine Ol.p asi ?_
            refine Ol.nil ?_
            refine ⟨(varsF g).length - (n + 1), by omega, n + 1, decide ((un : Int) = r (v : Int)), rfl, by omega, ?_, ⟨rfl, rfl, rfl, rfl, rfl, rfl, rfl, rfl, rfl, rfl, rfl, rfl, trivial⟩, rfl⟩
            rw [htk, List.mem_append, decide_eq_true_iff, hR.nat]
            constructor
            · intro e
              right
              have : un = rN v := by omega
              simp [this]
            · rintro (e | e)
              · exact absurd (hfound.2 e) (by simp)
              · have : rN v = un := by simpa using e
                omega
        have hne : n = (varsF g).length := by
          simp only [decide_eq_false_iff_not] at h2; omega
        have hft : found = true := hfound.2 (by rw [hne, List.take_of_length_le (Nat.le_refl _)]; exact e6 v hvm)
        subst hft
        exact Cd.exit (id := 10) ⟨⟨rfl, rfl, rfl, rfl, rfl, rfl, rfl, rfl, rfl, rfl, rfl, trivial⟩, rfl⟩
      rintro σ' _ ⟨hs', rfl⟩
      refine Cd.has hs' ?_
      clear hs'
      refine Cd.seq ?_
      refine Cd.region ?_
      refine Ol.p mvb ?_
      refine Ol.p noti ?_
      refine Ol.nil ?_
      refine Cd.cond rfl (fun h2 => by cases h2) (fun h2 => ?_)
      refine Cd.skip ?_
      refine Cd.region ?_
      refine Ol.p mvi ?_
      refine Ol.p addi ?_
      refine Ol.p asi ?_
      refine Ol.nil ?_
      exact ⟨(varsF f).length - (p + 1), by omega, p + 1, rfl, by omega, ⟨rfl, rfl, rfl, rfl, rfl, rfl, rfl, rfl, rfl, rfl, trivial⟩, rfl⟩
    exact Cd.exit (id := 8) ⟨A158, c158, A160, c160, ⟨rfl, rfl, rfl, rfl, rfl, rfl, rfl, rfl, trivial⟩, hL0.symm⟩
  rintro σ' _ ⟨A1, c1, A2, c2, hs', rfl⟩
  refine Cd.has hs' ?_
  clear hs'
  have hmem : ∀ r ∈ funRes g, r ∈ [row (.slice A2 (varsF g).length c2) 3 1 (varsF g).length (intsN (varsF g)), row (.slice A1 (varsF f).length c1) 3 1 (varsF f).length (intsN (varsF f)), blk g5 (.cells g.cells.toArray 43), blk g2 (.cells f.cells.toArray 43)] ++ funRes g := fun r hr => List.mem_append_right _ hr
  have t1 : decide (rightF f = rightF f) = true := by simp
  have t2 : decide (((mostF f).1 : Int) = ((mostF f).1 : Int)) = true := by simp
  have t3 : decide (((mostF f).2 : Int) = ((mostF f).2 : Int)) = true := by simp
  have t4 : decide ((sizeF f : Int) = (sizeF f : Int)) = true := by simp
  refine Cd.seq ?_
  refine Cd.draw mixed 30 (exIs (fun opNo => match opNo with | 1 => some (.int .i64 (rightF f)) | 3 => some (.int .i64 (rightF f)) | 17 => some (.int .i64 (sizeF f : Nat)) | 19 => some (.int .i64 (sizeF f : Nat)) | _ => none)) (fun _ => []) (by kernel_rfl) exIs_in (fun u hu => ?_)
  refine Wk.p (ldw ag_api_Func (i := 3) rfl rfl) ?_
  refine Wk.dk hu (sp_call en_ir_Right (fun M w' hh => ir_Right_ct (hf.now hh) hfit)) ?_
  refine Wk.p (ldw ag_api_Func (i := 2) rfl rfl) ?_
  refine Wk.dk hu (sp_call (R := Is (.int .i64 (rightF f))) en_ir_Right (fun M w' hh => by rw [← e1]; exact ir_Right_ct (FunAt.own hh hmem) (hgc.fit hh hmem))) ?_
  refine Wk.p eqi ?_
  refine Wk.p mvb ?_
  refine Wk.gp t1 mvi ?_
  refine Wk.gp t1 mvi ?_
  refine Wk.gp t1 eqi ?_
  refine Wk.p (pkTb t1) ?_
  refine Wk.p mvb ?_
  refine Wk.gp t2 mvi ?_
  refine Wk.gp t2 mvi ?_
  refine Wk.gp t2 eqi ?_
  refine Wk.p (pkTb t2) ?_
  refine Wk.p mvb ?_
  refine Wk.gp t3 (ldw ag_api_Func (i := 3) rfl rfl) ?_
  refine Wk.gdk hu t3 (sp_call en_ir_Size (fun M w' hh => ir_Size_ct (hf.now hh) hfit)) ?_
  refine Wk.gp t3 (ldw ag_api_Func (i := 2) rfl rfl) ?_
  refine Wk.gdk hu t3 (sp_call (R := Is (.int .i64 (sizeF f : Nat))) en_ir_Size (fun M w' hh => by rw [← e3]; exact ir_Size_ct (FunAt.own hh hmem) (hgc.fit hh hmem))) ?_
  refine Wk.gp t3 eqi ?_
  refine Wk.p (pkTb t3) ?_
  refine Wk.p mvb ?_
  refine Wk.gp t4 mvs ?_
  refine Wk.gp t4 (lens sl_L_int) ?_
  refine Wk.gp t4 mvs ?_
  refine Wk.gp t4 (lens sl_L_int) ?_
  refine Wk.gp t4 eqi ?_
  refine Wk.p (pkTb t4) ?_
  refine Wk.p asb ?_
  refine Wk.nil ?_
  rw [needs_exIs hu rfl]
  refine Ol.nil ?_
  refine Cd.ret ⟨.bool _, ret1 rfl rfl, [], .nil, ?_, rfl⟩
  rw [e5]
  simp
end
end Go.Proofs.Ytcojedoejpcolaa

/- Lists of structs that came in, opened. -/
namespace Go.Proofs.Ytcojedoejpcolaa
set_option linter.unusedVariables false
open Go Go.ChangeShapes Go.WideShapes Go.ChangeAt Go.RowKit
set_option maxRecDepth 100000

section
variable {H : Type} {enc : TypeId × Value → H} {P : Program} {w : World}
/-- What came in is not endless. -/
def Lean_ (P : Program) (t : TypeId) (d : DataW H) : Prop := ∀ n ∈ d.weights P t, n ≤ reachBytes
theorem weightsAll_mem {P : Program} {e : TypeId} {d : DataW H} {n : Nat} (hn : n ∈ d.weights P e) : ∀ {l : List (DataW H)}, d ∈ l → n ∈ DataW.weightsAll P e l
  | x :: l, h => by
    simp only [DataW.weightsAll, List.mem_append]
    rcases List.mem_cons.1 h with rfl | h
    · exact .inl hn
    · exact .inr (weightsAll_mem hn h)
theorem lean_slice {t e : TypeId} {a b : List (DataW H)} (ht : P.underlying t = some (.slice e)) (h : Lean_ P t (.slice a b)) : (a.length + b.length) * P.bytesOf e ≤ reachBytes ∧ ∀ d ∈ a, Lean_ P e d := by
  unfold Lean_ at h
  simp only [DataW.weights, ht, List.mem_cons, List.mem_append] at h
  exact ⟨h _ (.inl rfl), fun d hd n hn => h n (.inr (.inl (weightsAll_mem hn hd)))⟩
theorem open_list {α : Type} {cf : α → List Value} {Good : α → Prop} {t e : TypeId} {c fuel : Nat} {cs : List Value} {x : DataW H × List MemPlace} (ht : P.underlying t = some (.slice e)) (hc : P.cellsOf e = c) (hc0 : 0 < c) (hby : 0 < P.bytesOf e)
    (hcf : ∀ a, (cf a).length = c)
    (hel : ∀ n cs y, DataW.trod enc P w 0 (fun _ => true) true n e cs = some y → Lean_ P e y.1 → ∃ a : α, cs = cf a ∧ Good a)
    (h : DataW.trod enc P w 0 (fun _ => true) true fuel t cs = some x) (hw : Lean_ P t x.1) :
    ∃ (A : Option Addr) (cp : Nat) (l : List α), cs = [.slice A l.length cp] ∧ l.length ≤ cp ∧ Reads w w.heap.size c A l.length (l.flatMap cf) ∧ (∀ a ∈ l, Good a) ∧ l.length < 2 ^ 50 := by
  rcases Go.Deep.open_slice ht h with ⟨rfl, rfl⟩ | ⟨a, len, cap, m, n, D, Pl, rfl, _, hl, _, hm, rfl, hx⟩
  · exact ⟨none, 0, [], rfl, Nat.le_refl _, ⟨by simp, fun h => absurd h (by simp)⟩, by simp, by simp⟩
  · have hm : m = cap := by simpa using hm
    subst hm
    obtain ⟨hsz, hws⟩ := lean_slice ht hw
    have hsz : len < 2 ^ 50 := by
      simp only [List.length_map, List.length_range] at hsz
      have : reachBytes < 2 ^ 47 := reachBytes_lt
      have h2 : len + (m - len) ≤ (len + (m - len)) * P.bytesOf e := Nat.le_mul_of_pos_right _ hby
      omega
    have hex : ∀ i, i < len → ∃ v : α, Good v ∧ w.cells? 0 (a.add (i * c)) c = some (cf v) := fun i hi => by
      obtain ⟨cs', h1, h2⟩ := hx i (by omega)
      obtain ⟨v, rfl, hg⟩ := hel n cs' _ h2 (hws _ (List.mem_map.2 ⟨i, by simpa using hi, rfl⟩))
      rw [hc] at h1
      exact ⟨v, hg, h1⟩
    have hL : ∃ l : List α, l.length = len ∧ ∀ i v, l[i]? = some v → Good v ∧ w.cells? 0 (a.add (i * c)) c = some (cf v) := by
      clear hws hx hw h hm
      have : ∀ k, k ≤ len → ∃ l : List α, l.length = k ∧ ∀ i v, l[i]? = some v → Good v ∧ w.cells? 0 (a.add (i * c)) c = some (cf v) := by
        intro k
        induction k with
        | zero => exact fun _ => ⟨[], rfl, fun i v h => by simp at h⟩
        | succ k ih =>
          intro hk
          obtain ⟨l, h1, h2⟩ := ih (by omega)
          obtain ⟨v, hv⟩ := hex k (by omega)
          refine ⟨l ++ [v], by simp [h1], fun i u hu => ?_⟩
          rw [List.getElem?_append] at hu
          split at hu
          · exact h2 i u hu
          · rename_i hlt
            have hi : i - l.length = 0 := by
              have := (List.getElem?_eq_some_iff.1 hu).1
              simp at this; omega
            rw [hi] at hu
            simp at hu
            subst hu
            have : i = k := by omega
            rw [this]; exact hv
      exact this len (Nat.le_refl _)
    obtain ⟨l, hll, hg⟩ := hL
    have hcell : ∀ i v j, l[i]? = some v → j < c → w.cell? (a.add (i * c + j)) = (cf v)[j]? := fun i v j hv hj => by
      have := (World.cells?_some (hg i v hv).2).2.2 j hj
      rw [Go.Deep.add_add] at this
      exact this
    refine ⟨some a, m, l, by rw [hll], by omega, ⟨by rw [flat_len hcf], fun hn => ⟨a, rfl, ?_, fun j u hu => ?_⟩⟩, fun v hv => ?_, by omega⟩
    · obtain ⟨v, hv⟩ : ∃ v, l[0]? = some v := ⟨_, List.getElem?_eq_getElem hn⟩
      have h0 := hcell 0 v 0 hv hc0
      have : (cf v)[0]? = some ((cf v)[0]'(by rw [hcf]; exact hc0)) := List.getElem?_eq_getElem _
      rw [this] at h0
      have := World.block_lt_of_cell? w _ h0
      simpa [Addr.add] using this
    · have hjl : j < l.length * c := by
        have := (List.getElem?_eq_some_iff.1 hu).1
        rwa [flat_len hcf] at this
      have hd : j / c < l.length := Nat.div_lt_of_lt_mul (by rw [Nat.mul_comm]; exact hjl)
      have hr : j % c < c := Nat.mod_lt _ hc0
      have hj : j = j / c * c + j % c := by rw [Nat.mul_comm]; exact (Nat.div_add_mod j c).symm
      have hv : l[j / c]? = some l[j / c] := List.getElem?_eq_getElem hd
      rw [hj, flat_get hcf _ _ _ _ hv hr] at hu
      rw [hj, hcell _ _ _ hv hr]
      exact hu
    · obtain ⟨i, hi⟩ := List.mem_iff_getElem?.1 hv
      exact (hg i v hi).1
end
end Go.Proofs.Ytcojedoejpcolaa

/- A function of the program's that came in, opened. -/
namespace Go.Proofs.Ytcojedoejpcolaa
set_option linter.unusedVariables false
open Go Go.ChangeShapes Go.WideShapes Go.ChangeAt Go.RowKit
set_option maxRecDepth 100000

theorem lean_struct {H : Type} {P : Program} {t u : TypeId} {fs : Array Field} {parts : List (DataW H)} {d : DataW H} {j : Nat} (ht : P.underlying t = some (.struct fs)) (h : Lean_ P t (.agg parts)) (hu : (fs.toList.map (·.type))[j]? = some u) (hd : parts[j]? = some d) : Lean_ P u d := by
  unfold Lean_ at h ⊢
  simp only [DataW.weights, ht] at h
  exact fun n hn => h n (DataW.weights_mem_each hu hd n hn)
theorem list8 {α : Type} {l : List α} (h : l.length = 8) : ∃ a b c d e f g i, l = [a, b, c, d, e, f, g, i] := by
  match l, h with
  | [a, b, c, d, e, f, g, i], _ => exact ⟨a, b, c, d, e, f, g, i, rfl⟩
theorem i64_wf {n : Int} (h : (Lit.int .i64 n).wf = true) : -9223372036854775808 ≤ n ∧ n ≤ 9223372036854775807 := by
  have := i64_of_wf h
  unfold I64 at this; omega
theorem lean_each {H : Type} {P : Program} {ts : List TypeId} {ds : List (DataW H)} (h : (DataW.weightsEach P ts ds).all (· ≤ reachBytes) = true) {j : Nat} {t : TypeId} {d : DataW H} (ht : ts[j]? = some t) (hd : ds[j]? = some d) : Lean_ P t d := fun n hn => by
  simpa using List.all_eq_true.1 h n (DataW.weights_mem_each ht hd n hn)
section
theorem cells_Ins : Try.prog.cellsOf 25 = 8 := by kernel_rfl
theorem cells_Op : Try.prog.cellsOf 22 = 1 := by kernel_rfl
theorem cells_Lint : Try.prog.cellsOf 23 = 1 := by kernel_rfl
def IR (n : Int) : Prop := -9223372036854775808 ≤ n ∧ n ≤ 9223372036854775807
def GoodI (W : World) (i : RIns) : Prop := (∀ n ∈ [i.op, i.dst, i.a, i.b, i.imm, i.callee, i.many], IR n) ∧ i.args.length < 2 ^ 50 ∧ i.args.length ≤ i.aC ∧ (∀ n ∈ i.args, IR n) ∧ Reads W W.heap.size 1 i.aA i.args.length (ints i.args)
theorem flat_ints : ∀ l : List Int, l.flatMap (fun n : Int => [Value.int .i64 n]) = ints l
  | [] => rfl
  | a :: l => by rw [List.flatMap_cons, flat_ints l]; rfl
section
variable {H : Type} {enc : TypeId × Value → H} {W : World}
theorem open_intl {n : Nat} {cs : List Value} {y : DataW H × List MemPlace} (h : DataW.trod enc Try.prog W 0 (fun _ => true) true n 23 cs = some y) (hw : Lean_ Try.prog 23 y.1) :
    ∃ (A : Option Addr) (cp : Nat) (l : List Int), cs = [.slice A l.length cp] ∧ l.length ≤ cp ∧ Reads W W.heap.size 1 A l.length (ints l) ∧ (∀ a ∈ l, IR a) ∧ l.length < 2 ^ 50 := by
  obtain ⟨A, cp, l, h1, h2, h3, h4, h5⟩ := open_list (cf := fun n : Int => [.int .i64 n]) (Good := IR) Try.underlying23 cells_int (by decide) (by rw [bytes_int]; decide) (fun _ => rfl) (fun n cs y h _ => by
    obtain ⟨z, rfl, rfl, hw⟩ := DataW.trod_int Try.underlying3 h
    exact ⟨z, rfl, i64_wf hw⟩) h hw
  refine ⟨A, cp, l, h1, h2, ?_, h4, h5⟩
  rw [flat_ints] at h3
  exact h3
theorem open_ins {n : Nat} {cs : List Value} {y : DataW H × List MemPlace} (h : DataW.trod enc Try.prog W 0 (fun _ => true) true n 25 cs = some y) (hw : Lean_ Try.prog 25 y.1) : ∃ i : RIns, cs = i.cells ∧ GoodI W i := by
  obtain ⟨xs, m, _, rfl, hl, hlen, hf⟩ := DataW.trod_struct Try.underlying25 h
  simp only [List.size_toArray, List.length_cons, List.length_nil] at hlen
  obtain ⟨y0, y1, y2, y3, y4, y5, y6, y7, rfl⟩ := list8 hlen
  have hl8 : cs.length = 8 := hl.trans cells_Ins
  obtain ⟨c0, c1, c2, c3, c4, c5, c6, c7, rfl⟩ := list8 hl8
  have f0 : DataW.trod enc Try.prog W 0 (fun _ => true) true m 22 [c0] = some y0 := by
    have q := hf 0 _ rfl
    change DataW.trod enc Try.prog W 0 (fun _ => true) true m 22 (List.take (Try.prog.cellsOf 22) (List.drop 0 [c0, c1, c2, c3, c4, c5, c6, c7])) = some y0 at q
    rw [cells_Op] at q
    exact q
  have f1 : DataW.trod enc Try.prog W 0 (fun _ => true) true m 3 [c1] = some y1 := by
    have q := hf 1 _ rfl
    change DataW.trod enc Try.prog W 0 (fun _ => true) true m 3 (List.take (Try.prog.cellsOf 3) (List.drop 1 [c0, c1, c2, c3, c4, c5, c6, c7])) = some y1 at q
    rw [cells_int] at q
    exact q
  have f2 : DataW.trod enc Try.prog W 0 (fun _ => true) true m 3 [c2] = some y2 := by
    have q := hf 2 _ rfl
    change DataW.trod enc Try.prog W 0 (fun _ => true) true m 3 (List.take (Try.prog.cellsOf 3) (List.drop 2 [c0, c1, c2, c3, c4, c5, c6, c7])) = some y2 at q
    rw [cells_int] at q
    exact q
  have f3 : DataW.trod enc Try.prog W 0 (fun _ => true) true m 3 [c3] = some y3 := by
    have q := hf 3 _ rfl
    change DataW.trod enc Try.prog W 0 (fun _ => true) true m 3 (List.take (Try.prog.cellsOf 3) (List.drop 3 [c0, c1, c2, c3, c4, c5, c6, c7])) = some y3 at q
    rw [cells_int] at q
    exact q
  have f4 : DataW.trod enc Try.prog W 0 (fun _ => true) true m 3 [c4] = some y4 := by
    have q := hf 4 _ rfl
    change DataW.trod enc Try.prog W 0 (fun _ => true) true m 3 (List.take (Try.prog.cellsOf 3) (List.drop 4 [c0, c1, c2, c3, c4, c5, c6, c7])) = some y4 at q
    rw [cells_int] at q
    exact q
  have f5 : DataW.trod enc Try.prog W 0 (fun _ => true) true m 3 [c5] = some y5 := by
    have q := hf 5 _ rfl
    change DataW.trod enc Try.prog W 0 (fun _ => true) true m 3 (List.take (Try.prog.cellsOf 3) (List.drop 5 [c0, c1, c2, c3, c4, c5, c6, c7])) = some y5 at q
    rw [cells_int] at q
    exact q
  have f6 : DataW.trod enc Try.prog W 0 (fun _ => true) true m 23 [c6] = some y6 := by
    have q := hf 6 _ rfl
    change DataW.trod enc Try.prog W 0 (fun _ => true) true m 23 (List.take (Try.prog.cellsOf 23) (List.drop 6 [c0, c1, c2, c3, c4, c5, c6, c7])) = some y6 at q
    rw [cells_Lint] at q
    exact q
  have f7 : DataW.trod enc Try.prog W 0 (fun _ => true) true m 3 [c7] = some y7 := by
    have q := hf 7 _ rfl
    change DataW.trod enc Try.prog W 0 (fun _ => true) true m 3 (List.take (Try.prog.cellsOf 3) (List.drop 7 [c0, c1, c2, c3, c4, c5, c6, c7])) = some y7 at q
    rw [cells_int] at q
    exact q
  obtain ⟨z0, e0, _, w0⟩ := DataW.trod_int Try.underlying22 f0
  obtain ⟨z1, e1, _, w1⟩ := DataW.trod_int Try.underlying3 f1
  obtain ⟨z2, e2, _, w2⟩ := DataW.trod_int Try.underlying3 f2
  obtain ⟨z3, e3, _, w3⟩ := DataW.trod_int Try.underlying3 f3
  obtain ⟨z4, e4, _, w4⟩ := DataW.trod_int Try.underlying3 f4
  obtain ⟨z5, e5, _, w5⟩ := DataW.trod_int Try.underlying3 f5
  obtain ⟨z7, e7, _, w7⟩ := DataW.trod_int Try.underlying3 f7
  obtain ⟨A, cp, l, e6, h2, h3, h4, h5⟩ := open_intl f6 (lean_struct Try.underlying25 (parts := [y0.1, y1.1, y2.1, y3.1, y4.1, y5.1, y6.1, y7.1]) hw (j := 6) rfl rfl)
  simp only [List.cons.injEq, and_true] at e0 e1 e2 e3 e4 e5 e6 e7
  subst e0 e1 e2 e3 e4 e5 e6 e7
  refine ⟨⟨z0, z1, z2, z3, z4, z5, A, cp, l, z7⟩, rfl, ?_, h5, h2, h4, h3⟩
  intro n hn
  simp only [List.mem_cons, List.not_mem_nil, or_false] at hn
  rcases hn with rfl | rfl | rfl | rfl | rfl | rfl | rfl
  all_goals exact i64_wf (by assumption)
theorem list4 {α : Type} {l : List α} (h : l.length = 4) : ∃ a b c d, l = [a, b, c, d] := by
  match l, h with
  | [a, b, c, d], _ => exact ⟨a, b, c, d, rfl⟩
theorem list5 {α : Type} {l : List α} (h : l.length = 5) : ∃ a b c d e, l = [a, b, c, d, e] := by
  match l, h with
  | [a, b, c, d, e], _ => exact ⟨a, b, c, d, e, rfl⟩
theorem list3 {α : Type} {l : List α} (h : l.length = 3) : ∃ a b c, l = [a, b, c] := by
  match l, h with
  | [a, b, c], _ => exact ⟨a, b, c, rfl⟩
theorem list2 {α : Type} {l : List α} (h : l.length = 2) : ∃ a b, l = [a, b] := by
  match l, h with
  | [a, b], _ => exact ⟨a, b, rfl⟩
theorem cells_Term : Try.prog.cellsOf 29 = 4 := by kernel_rfl
theorem cells_Kind : Try.prog.cellsOf 26 = 1 := by kernel_rfl
theorem cells_A2 : Try.prog.cellsOf 27 = 2 := by kernel_rfl
theorem cells_Block : Try.prog.cellsOf 50 = 5 := by kernel_rfl
theorem cells_Func : Try.prog.cellsOf 43 = 2 := by kernel_rfl
theorem cells_LIns : Try.prog.cellsOf 48 = 1 := by kernel_rfl
theorem cells_LBlk : Try.prog.cellsOf 41 = 1 := by kernel_rfl
theorem open_term {n : Nat} {cs : List Value} {y : DataW H × List MemPlace} (h : DataW.trod enc Try.prog W 0 (fun _ => true) true n 29 cs = some y) : ∃ t : Tm, cs = t.cells ∧ ∀ n ∈ [t.kind, t.a, t.t0, t.t1], IR n := by
  obtain ⟨xs, m, _, rfl, hl, hlen, hf⟩ := DataW.trod_struct Try.underlying29 h
  simp only [List.size_toArray, List.length_cons, List.length_nil] at hlen
  obtain ⟨y0, y1, y2, rfl⟩ := list3 hlen
  have hl4 : cs.length = 4 := hl.trans cells_Term
  obtain ⟨c0, c1, c2, c3, rfl⟩ := list4 hl4
  have f0 : DataW.trod enc Try.prog W 0 (fun _ => true) true m 26 [c0] = some y0 := by
    have q := hf 0 _ rfl
    change DataW.trod enc Try.prog W 0 (fun _ => true) true m 26 (List.take (Try.prog.cellsOf 26) (List.drop 0 [c0, c1, c2, c3])) = some y0 at q
    rw [cells_Kind] at q
    exact q
  have f1 : DataW.trod enc Try.prog W 0 (fun _ => true) true m 3 [c1] = some y1 := by
    have q := hf 1 _ rfl
    change DataW.trod enc Try.prog W 0 (fun _ => true) true m 3 (List.take (Try.prog.cellsOf 3) (List.drop 1 [c0, c1, c2, c3])) = some y1 at q
    rw [cells_int] at q
    exact q
  have f2 : DataW.trod enc Try.prog W 0 (fun _ => true) true m 27 [c2, c3] = some y2 := by
    have q := hf 2 _ rfl
    change DataW.trod enc Try.prog W 0 (fun _ => true) true m 27 (List.take (Try.prog.cellsOf 27) (List.drop 2 [c0, c1, c2, c3])) = some y2 at q
    rw [cells_A2] at q
    exact q
  obtain ⟨xs, m2, _, e2, hl2, hlen2, hf2⟩ := DataW.trod_array Try.underlying27 f2
  obtain ⟨y3, y4, rfl⟩ := list2 hlen2
  have g0 : DataW.trod enc Try.prog W 0 (fun _ => true) true m2 3 [c2] = some y3 := by
    have q := hf2 0 (by decide)
    rw [cells_int] at q
    exact q
  have g1 : DataW.trod enc Try.prog W 0 (fun _ => true) true m2 3 [c3] = some y4 := by
    have q := hf2 1 (by decide)
    rw [cells_int] at q
    exact q
  obtain ⟨z0, e0, _, w0⟩ := DataW.trod_int Try.underlying26 f0
  obtain ⟨z1, e1, _, w1⟩ := DataW.trod_int Try.underlying3 f1
  obtain ⟨z2, e2, _, w2⟩ := DataW.trod_int Try.underlying3 g0
  obtain ⟨z3, e3, _, w3⟩ := DataW.trod_int Try.underlying3 g1
  simp only [List.cons.injEq, and_true] at e0 e1 e2 e3
  subst e0 e1 e2 e3
  refine ⟨⟨z0, z1, z2, z3⟩, rfl, ?_⟩
  intro n hn
  simp only [List.mem_cons, List.not_mem_nil, or_false] at hn
  rcases hn with rfl | rfl | rfl | rfl
  all_goals exact i64_wf (by assumption)
def GoodB (W : World) (b : RBlk) : Prop := (∀ n ∈ [b.term.kind, b.term.a, b.term.t0, b.term.t1], IR n) ∧ b.ins.length < 2 ^ 50 ∧ b.ins.length ≤ b.iC ∧ (∀ i ∈ b.ins, GoodI W i) ∧ Reads W W.heap.size 8 b.iA b.ins.length (b.ins.flatMap RIns.cells)
theorem open_block {n : Nat} {cs : List Value} {y : DataW H × List MemPlace} (h : DataW.trod enc Try.prog W 0 (fun _ => true) true n 50 cs = some y) (hw : Lean_ Try.prog 50 y.1) : ∃ b : RBlk, cs = b.cells ∧ GoodB W b := by
  obtain ⟨xs, m, _, rfl, hl, hlen, hf⟩ := DataW.trod_struct Try.underlying50 h
  simp only [List.size_toArray, List.length_cons, List.length_nil] at hlen
  obtain ⟨y0, y1, rfl⟩ := list2 hlen
  have hl5 : cs.length = 5 := hl.trans cells_Block
  obtain ⟨c0, c1, c2, c3, c4, rfl⟩ := list5 hl5
  have f0 : DataW.trod enc Try.prog W 0 (fun _ => true) true m 48 [c0] = some y0 := by
    have q := hf 0 _ rfl
    change DataW.trod enc Try.prog W 0 (fun _ => true) true m 48 (List.take (Try.prog.cellsOf 48) (List.drop 0 [c0, c1, c2, c3, c4])) = some y0 at q
    rw [cells_LIns] at q
    exact q
  have f1 : DataW.trod enc Try.prog W 0 (fun _ => true) true m 29 [c1, c2, c3, c4] = some y1 := by
    have q := hf 1 _ rfl
    change DataW.trod enc Try.prog W 0 (fun _ => true) true m 29 (List.take (Try.prog.cellsOf 29) (List.drop 1 [c0, c1, c2, c3, c4])) = some y1 at q
    rw [cells_Term] at q
    exact q
  obtain ⟨t, e1, ht⟩ := open_term f1
  obtain ⟨A, cp, l, e0, h1, h2, h3, h4⟩ := open_list (cf := RIns.cells) (Good := GoodI W) Try.underlying48 cells_Ins (by decide) (of_decide_eq_true (by kernel_rfl)) RIns.len (fun n cs y h hw => open_ins h hw) f0 (lean_struct Try.underlying50 (parts := [y0.1, y1.1]) hw (j := 0) rfl rfl)
  simp only [List.cons.injEq, and_true] at e0
  subst e0
  rw [e1]
  exact ⟨⟨A, cp, l, t⟩, rfl, ht, h4, h1, h3, h2⟩
theorem reads_func {v : Value} {d : DataW H} {p : List MemPlace} (h : DataW.Trod enc Try.prog W 0 (fun _ => true) true 43 v d p) (hv : ∃ cs, v = .agg cs) (hw : Lean_ Try.prog 43 d) : ∃ f : RFun, v = f.val ∧ FunAt W W.heap.size f ∧ Fit f := by
  obtain ⟨fuel, h⟩ := h
  obtain ⟨cs, rfl⟩ := hv
  obtain ⟨xs, m, _, e, hl, hlen, hf⟩ := DataW.trod_struct Try.underlying43 h
  simp only [List.size_toArray, List.length_cons, List.length_nil] at hlen
  obtain ⟨y0, y1, rfl⟩ := list2 hlen
  have hl2 : cs.toList.length = 2 := by simpa [Value.cells] using hl.trans cells_Func
  obtain ⟨c0, c1, hcs⟩ := list2 hl2
  have ed : d = .agg [y0.1, y1.1] := congrArg Prod.fst e
  subst ed
  simp only [Value.cells, hcs] at hf
  have f0 : DataW.trod enc Try.prog W 0 (fun _ => true) true m 23 [c0] = some y0 := by
    have q := hf 0 _ rfl
    change DataW.trod enc Try.prog W 0 (fun _ => true) true m 23 (List.take (Try.prog.cellsOf 23) (List.drop 0 [c0, c1])) = some y0 at q
    rw [cells_Lint] at q
    exact q
  have f1 : DataW.trod enc Try.prog W 0 (fun _ => true) true m 41 [c1] = some y1 := by
    have q := hf 1 _ rfl
    change DataW.trod enc Try.prog W 0 (fun _ => true) true m 41 (List.take (Try.prog.cellsOf 41) (List.drop 1 [c0, c1])) = some y1 at q
    rw [cells_LBlk] at q
    exact q
  obtain ⟨A, cp, l, e0, h1, h2, h3, h4⟩ := open_intl f0 (lean_struct Try.underlying43 (parts := [y0.1, y1.1]) hw (j := 0) rfl rfl)
  obtain ⟨A2, cp2, l2, e1, k1, k2, k3, k4⟩ := open_list (cf := RBlk.cells) (Good := GoodB W) Try.underlying41 cells_Block (by decide) (of_decide_eq_true (by kernel_rfl)) RBlk.len (fun n cs y h hw => open_block h hw) f1 (lean_struct Try.underlying43 (parts := [y0.1, y1.1]) hw (j := 1) rfl rfl)
  simp only [List.cons.injEq, and_true] at e0 e1
  subst e0 e1
  refine ⟨⟨A, cp, l, A2, cp2, l2⟩, ?_, ⟨h2, k2, fun b hb => (k3 b hb).2.2.2.2, fun b hb i hi => ((k3 b hb).2.2.2.1 i hi).2.2.2.2⟩, ?_⟩
  · have : cs = [Value.slice A l.length cp, .slice A2 l2.length cp2].toArray := by rw [← hcs]
    rw [this]; rfl
  · exact ⟨h3, h4, k4, h1, k1, fun b hb => (k3 b hb).2.1, fun b hb => (k3 b hb).2.2.1, fun b hb => (k3 b hb).1, fun b hb i hi => ((k3 b hb).2.2.2.1 i hi).1, fun b hb i hi => ((k3 b hb).2.2.2.1 i hi).2.1, fun b hb i hi => ((k3 b hb).2.2.2.1 i hi).2.2.1, fun b hb i hi => ((k3 b hb).2.2.2.1 i hi).2.2.2.1⟩
end
end
end Go.Proofs.Ytcojedoejpcolaa

/- IrRenames: for every input that can be read, the law IrRenames returns true and its arguments read as before. Conditions: the row. -/
namespace Go.Proofs.Ytcojedoejpcolaa
set_option linter.unusedVariables false
open Go Go.ChangeShapes Go.WideShapes Go.ChangeAt Go.RowKit
set_option maxRecDepth 100000

theorem irRenames_lifted (os : Os) (started : os.Started) (H : Type) (enc : TypeId × Value → H) :
    ReturnsInHanded {} Try.checked os 6 .any (Rows.irRenamesSpec.pre6 enc Try.prog Try.f6 Rows.irRenamesRow.domain false) (Rows.irRenamesSpec.post enc Try.prog Try.f6 false true false false) := by
  refine returnsInHanded_of_change_sized (C := Try.checked) own_ started (by kernel_rfl) Try.func6
    (ChangeSpec.witness6 (enc := enc) (C := Try.checked) false ⟨#[], #[.agg #[.slice none 0 0, .slice none 0 0], .int .i64 0], []⟩ 8 (by kernel_rfl) (by kernel_rfl) (by kernel_rfl) (by kernel_rfl)) ?_
  intro W base args ds gs before hval0 hW _ hsz0 _
  have hval : ∀ (j : Nat) t v, Try.f6.params[j]? = some t → args[j]? = some v → Value.okWide Try.prog W .any base t v := hval0
  have hW' := hW
  obtain ⟨p, q, hA0, hV, rfl, hfz, hnd⟩ := hW
  have hA : DataW.TrodAll enc Try.prog W 0 (fun _ => true) true Try.f6.params.toList args.toList ds p := hA0
  have hsz : (DataW.weightsEach Try.prog (Try.f6.params.toList ++ Rows.irRenamesSpec.plain.varTypes Try.prog) (ds ++ gs)).all (· ≤ reachBytes) = true := hsz0
  rw [Try.params6] at hA hval hsz
  obtain ⟨v0, vs0, d0, ds0, p0, q0, hargs, rfl, rfl, h0, r0⟩ := trodAll_cons hA
  obtain ⟨v1, vs1, d1, ds1, p1, q1, rfl, rfl, rfl, h1, r1⟩ := trodAll_cons r0
  obtain ⟨rfl, rfl, rfl⟩ := trodAll_nil r1
  obtain rfl : args = #[v0, v1] := by cases args; simp_all
  obtain ⟨rfl, rfl⟩ := trodVars_none hV
  have k0 := h0
  have lt0 : ∀ x ∈ p0, x.block < W.heap.size := by obtain ⟨m, hm⟩ := k0; exact DataW.trod_lt m _ _ _ hm
  obtain ⟨z0, rfl, x0, y0⟩ := reads_func h0 (Exists.imp (fun _ h => h.1) (okWide_struct Try.underlying43 (hval 0 43 v0 rfl rfl))) (lean_each hsz (j := 0) rfl rfl)
  obtain ⟨z1, rfl, rfl, rfl, wf1⟩ := open_int Try.underlying3 (hval 1 3 v1 rfl rfl) h1
  have i1 := i64_of_wf wf1
  clear hA0 hval0
  refine ((law03_IrRenames_ct x0 y0).calls).mono fun e W' ⟨v, he, L, hh, hv, _⟩ => ?_
  subst hv
  subst he
  have bel := hh.below
  exact ⟨_, rfl, _, _, _, [], _, [], hW', trodAll_mk1 (shut_bool Try.underlying4 _), (trodAll_cons_mk (Below.trod laidOut_ (by kernel_rfl) (of_decide_eq_true (by kernel_rfl)) k0 bel lt0) (trodAll_cons_mk (shut_int Try.underlying3 wf1) trodAll_mk0)), rfl, bel.frame _, fun h => by cases h⟩
theorem irRenames_said : Rows.IrRenamesSaid :=
  OpenClaim.holds_of_wide 6 Try.f6 rfl rfl rfl rfl rfl rfl rfl ⟨rfl, rfl, rfl, rfl, rfl⟩ rfl rfl rfl rfl rfl (by kernel_rfl) Try.func6 (by kernel_rfl)
    (of_decide_eq_true (by kernel_rfl)) (by unfold Func.isWrapper; rw [if_neg (of_decide_eq_false (by kernel_rfl))]; exact ⟨rfl, rfl⟩)
    (fun os started H enc _ => irRenames_lifted os started H enc)
end Go.Proofs.Ytcojedoejpcolaa

