/- Part 4 of the proof of RunEndsC: the texts Count, Pick, Law03, RunA, RunP, Ref08F, RefA, RefB, RefC, CountsLaw, RefP, RefD, RefE, RefF, Ren, Most, RefG, Law08, RunAgain, RunSafe, one behind the other. -/
import Derived.Test.YtjenaenakopicaaGreatRunEndsCM3
/- How great a function is: walked. -/
namespace Go.Proofs.YtjenaenakopicaaGreat
set_option linter.unusedVariables false
open Go Go.RowKit
set_option maxRecDepth 100000

def argSum (l : List RIns) : Nat := (l.map fun i => i.args.length).sum
def bsz (b : RBlk) : Nat := 1 + b.ins.length + argSum b.ins
def blocksSz (l : List RBlk) : Nat := (l.map bsz).sum
def RFun.sz (f : RFun) : Nat := f.params.length + blocksSz f.blocks
theorem argSum_snoc {l : List RIns} {k : Nat} {i : RIns} (h : l[k]? = some i) : argSum (l.take (k + 1)) = argSum (l.take k) + i.args.length := by
  unfold argSum
  rw [take_snoc_ h, List.map_append, List.sum_append]; simp
theorem blocksSz_snoc {l : List RBlk} {k : Nat} {b : RBlk} (h : l[k]? = some b) : blocksSz (l.take (k + 1)) = blocksSz (l.take k) + bsz b := by
  unfold blocksSz
  rw [take_snoc_ h, List.map_append, List.sum_append]; simp
/-- What is counted: all, or more than the bound. -/
def Counted (n most total : Nat) : Prop := (n ≤ most → n = total) ∧ n < 2 ^ 55
theorem counted_ex {most : Nat} (hm : most < 2 ^ 40) (t : Nat) : ∃ n, Counted n most t := by
  rcases Nat.lt_or_ge most t with h | h
  · exact ⟨most + 1, fun h' => by omega, by omega⟩
  · exact ⟨t, fun _ => rfl, by omega⟩
section
set_option maxHeartbeats 1000000 in
theorem kit_BlocksOf_ct {w : World} {f : RFun} {most : Nat} (hf : FunAt w w.heap.size f) (hfit : Fit f) (hm : most < 2 ^ 40) : Ct Tryz.prog 52 #[.slice f.bA f.blocks.length f.bC, .int .i64 most] w (fun v R => ∃ n : Nat, v = .int .i64 n ∧ Counted n most (blocksSz f.blocks) ∧ R = []) := by
  have hbl := hfit.blen
  refine Ct.mk Tryz.func52 rfl rfl ?_
  refine Cd.seq ?_
  refine Cd.region ?_
  refine Ol.p asi ?_
  refine Ol.nil ?_
  refine Cd.seq ?_
  refine Cd.region ?_
  refine Ol.p asi ?_
  refine Ol.nil ?_
  refine Cd.seq ?_
  refine Cd.seq ?_
  refine Cd.region ?_
  refine Ol.p asi ?_
  refine Ol.nil ?_
  refine Cd.block ?_
  refine Cd.loop (fun m σ L => ∃ k n : Nat, m = f.blocks.length - k ∧ k ≤ f.blocks.length ∧ Has σ [(0, .slice f.bA f.blocks.length f.bC), (1, .int .i64 most), (5, .int .i64 n), (6, .int .i64 k)] ∧ L = [] ∧ Counted n most (blocksSz (f.blocks.take k))) (n := f.blocks.length) ⟨0, 0, rfl, Nat.zero_le _, ⟨rfl, rfl, rfl, rfl, trivial⟩, rfl, fun _ => rfl, by decide⟩ ?_
  rintro _ σ L ⟨k, n, rfl, hk, hs, rfl, hn⟩
  obtain ⟨hn1, hn2⟩ := hn
  refine Cd.has hs ?_
  refine Cd.seq ?_
  refine Cd.seq ?_
  cases h4 : decide ((k : Int) < (f.blocks.length : Int)) with
  | true =>
    have hlt : k < f.blocks.length := by simpa using h4
    obtain ⟨b, hb⟩ : ∃ b, f.blocks[k]? = some b := ⟨_, List.getElem?_eq_getElem hlt⟩
    have hbm : b ∈ f.blocks := List.mem_of_getElem? hb
    have hil := hfit.ilen b hbm
    have hins := hf.ins b hbm
    have hsl : Som w w.heap.size ([] : List Res) f.bA := Som.slc hf.blocks (by omega)
    have hc0 : (f.blocks.flatMap RBlk.cells)[k * 5 + 0]? = some (.slice b.iA b.ins.length b.iC) := hf.cell hb (by decide)
    refine Cd.region ?_
    refine Ol.p mvi ?_
    refine Ol.p mvs ?_
    refine Ol.p (lens sl_L_api_Block) ?_
    refine Ol.p lsi ?_
    refine Ol.p mvb ?_
    refine Ol.gp h4 mvi ?_
    refine Ol.gp h4 mvi ?_
    refine Ol.gp h4 lei ?_
    refine Ol.p (pkTb h4) ?_
    refine Ol.nil ?_
    refine Cd.cond rfl (fun h => ?_) (fun h => ?_)
    · have hle : n ≤ most := by simpa using h
      have hne := hn1 hle
      refine Cd.skip ?_
      refine Cd.mid (fun σ' L' => ∃ n' : Nat, Has σ' [(0, .slice f.bA f.blocks.length f.bC), (1, .int .i64 most), (5, .int .i64 n'), (6, .int .i64 k)] ∧ L' = [] ∧ Counted n' most (blocksSz (f.blocks.take (k + 1)))) ?_ ?_
      · refine Cd.block ?_
        refine Cd.seq ?_
        refine Cd.region ?_
        refine Ol.p mvi ?_
        refine Ol.p addi ?_
        refine Ol.p mvs ?_
        refine Ol.p mvi ?_
        refine Ol.p (ixn sl_L_api_Block hsl) ?_
        refine Ol.p (fdp fd_api_Block_0) ?_
        refine Ol.p (ld one_L_api_Ins (Rd.slc hf.blocks hc0)) ?_
        refine Ol.p (lens sl_L_api_Ins) ?_
        refine Ol.p addi ?_
        refine Ol.p asi ?_
        refine Ol.nil ?_
        refine Cd.seq ?_
        refine Cd.region ?_
        refine Ol.p asi ?_
        refine Ol.nil ?_
        refine Cd.block ?_
        refine Cd.loop (fun m σ L => ∃ j n : Nat, m = b.ins.length - j ∧ j ≤ b.ins.length ∧ Has σ [(0, .slice f.bA f.blocks.length f.bC), (1, .int .i64 most), (5, .int .i64 n), (6, .int .i64 k), (7, .int .i64 j)] ∧ L = [] ∧ (n ≤ most → n = blocksSz (f.blocks.take k) + 1 + b.ins.length + argSum (b.ins.take j)) ∧ n < 2 ^ 55 ∧ (j = 0 → n ≤ most + 1 + b.ins.length)) (n := b.ins.length) ⟨0, n + 1 + b.ins.length, rfl, Nat.zero_le _, ⟨rfl, rfl, rfl, rfl, rfl, trivial⟩, rfl, fun _ => by rw [hne]; rfl, by omega, fun _ => by omega⟩ ?_
        rintro _ σ L ⟨j, n, rfl, hj, hs, rfl, hq1, hq2, hq3⟩
        refine Cd.has hs ?_
        refine Cd.seq ?_
        refine Cd.seq ?_
        cases h8 : decide ((j : Int) < (b.ins.length : Int)) with
        | true =>
          have hjl : j < b.ins.length := by simpa using h8
          obtain ⟨i, hi⟩ : ∃ i, b.ins[j]? = some i := ⟨_, List.getElem?_eq_getElem hjl⟩
          have him : i ∈ b.ins := List.mem_of_getElem? hi
          have hal := hfit.alen b hbm i him
          have hc6 : (b.ins.flatMap RIns.cells)[j * 8 + 6]? = some (.slice i.aA i.args.length i.aC) := flat_get RIns.len _ _ _ _ hi (by decide)
          refine Cd.region ?_
          refine Ol.p mvi ?_
          refine Ol.p mvs ?_
          refine Ol.p mvi ?_
          refine Ol.p (ixn sl_L_api_Block hsl) ?_
          refine Ol.p (fdp fd_api_Block_0) ?_
          refine Ol.p (ld one_L_api_Ins (Rd.slc hf.blocks hc0)) ?_
          refine Ol.p (lens sl_L_api_Ins) ?_
          refine Ol.p lsi ?_
          refine Ol.p mvb ?_
          refine Ol.gp h8 mvi ?_
          refine Ol.gp h8 mvi ?_
          refine Ol.gp h8 lei ?_
          refine Ol.p (pkTb h8) ?_
          refine Ol.nil ?_
          refine Cd.cond rfl (fun h => ?_) (fun h => ?_)
          · have hle : n ≤ most := by simpa using h
            refine Cd.skip ?_
            refine Cd.seq ?_
            refine Cd.block ?_
            refine Cd.region ?_
            refine Ol.p mvi ?_
            refine Ol.p mvs ?_
            refine Ol.p mvi ?_
            refine Ol.p (ixn sl_L_api_Block hsl) ?_
            refine Ol.p (fdp fd_api_Block_0) ?_
            refine Ol.p (ld one_L_api_Ins (Rd.slc hf.blocks hc0)) ?_
            refine Ol.p mvi ?_
            refine Ol.p (ixn sl_L_api_Ins (Som.slc hins (by omega))) ?_
            refine Ol.p (fdp fd_api_Ins_6) ?_
            refine Ol.p (ld one_L_int (Rd.slc hins hc6)) ?_
            refine Ol.p (lens sl_L_int) ?_
            refine Ol.p addi ?_
            refine Ol.p asi ?_
            refine Ol.nil ?_
            refine Cd.region ?_
            refine Ol.p mvi ?_
            refine Ol.p addi ?_
            refine Ol.p asi ?_
            refine Ol.nil ?_
            refine ⟨b.ins.length - (j + 1), by omega, j + 1, n + i.args.length, rfl, by omega, ⟨rfl, rfl, rfl, rfl, rfl, trivial⟩, rfl, fun h' => ?_, by omega, fun h' => by omega⟩
            rw [argSum_snoc hi, hq1 hle]
            omega
          · have hgt : most < n := by
              have : ¬ (n : Int) ≤ most := by simpa using h
              omega
            refine Cd.exit (id := 2) ?_
            exact ⟨n, ⟨rfl, rfl, rfl, rfl, trivial⟩, rfl, fun h' => by omega, hq2⟩
        | false =>
          have hje : j = b.ins.length := by
            have : ¬ (j : Int) < b.ins.length := by simpa using h8
            omega
          refine Cd.region ?_
          refine Ol.p mvi ?_
          refine Ol.p mvs ?_
          refine Ol.p mvi ?_
          refine Ol.p (ixn sl_L_api_Block hsl) ?_
          refine Ol.p (fdp fd_api_Block_0) ?_
          refine Ol.p (ld one_L_api_Ins (Rd.slc hf.blocks hc0)) ?_
          refine Ol.p (lens sl_L_api_Ins) ?_
          refine Ol.p lsi ?_
          refine Ol.p mvb ?_
          refine Ol.gn h8 ?_
          refine Ol.gn h8 ?_
          refine Ol.gn h8 ?_
          refine Ol.p (pkFb h8) ?_
          refine Ol.nil ?_
          refine Cd.cond rfl (fun h => by cases h) (fun h => ?_)
          refine Cd.exit (id := 2) ?_
          refine ⟨n, ⟨rfl, rfl, rfl, rfl, trivial⟩, rfl, fun h' => ?_, hq2⟩
          rw [hq1 h', hje, List.take_length, blocksSz_snoc hb]
          unfold bsz; omega
      · rintro σ' _ ⟨n', hs', rfl, hn'⟩
        refine Cd.has hs' ?_
        refine Cd.region ?_
        refine Ol.p mvi ?_
        refine Ol.p addi ?_
        refine Ol.p asi ?_
        refine Ol.nil ?_
        exact ⟨f.blocks.length - (k + 1), by omega, k + 1, n', rfl, by omega, ⟨rfl, rfl, rfl, rfl, trivial⟩, rfl, hn'⟩
    · have hgt : most < n := by
        have : ¬ (n : Int) ≤ most := by simpa using h
        omega
      refine Cd.exit (id := 0) ?_
      refine Cd.seq ?_
      refine Cd.region ?_
      refine Ol.p mvi ?_
      refine Ol.p asi ?_
      refine Ol.nil ?_
      exact Cd.ret ⟨.int .i64 _, ret1 rfl rfl, [], .nil, n, rfl, ⟨fun h' => by omega, hn2⟩, rfl⟩
  | false =>
    have hke : k = f.blocks.length := by
      have : ¬ (k : Int) < f.blocks.length := by simpa using h4
      omega
    subst hke
    refine Cd.region ?_
    refine Ol.p mvi ?_
    refine Ol.p mvs ?_
    refine Ol.p (lens sl_L_api_Block) ?_
    refine Ol.p lsi ?_
    refine Ol.p mvb ?_
    refine Ol.gn h4 ?_
    refine Ol.gn h4 ?_
    refine Ol.gn h4 ?_
    refine Ol.p (pkFb h4) ?_
    refine Ol.nil ?_
    refine Cd.cond rfl (fun h => by cases h) (fun h => ?_)
    refine Cd.exit (id := 0) ?_
    refine Cd.seq ?_
    refine Cd.region ?_
    refine Ol.p mvi ?_
    refine Ol.p asi ?_
    refine Ol.nil ?_
    rw [List.take_length] at hn1
    exact Cd.ret ⟨.int .i64 _, ret1 rfl rfl, [], .nil, n, rfl, ⟨hn1, hn2⟩, rfl⟩
theorem kit_FuncOf_ct {w : World} {f : RFun} {most : Nat} (hf : FunAt w w.heap.size f) (hfit : Fit f) (hm : most < 2 ^ 40) : Ct Tryz.prog 11 #[f.val, .int .i64 most] w (fun v R => ∃ n : Nat, v = .int .i64 n ∧ (n ≤ most → n = f.sz) ∧ n < 2 ^ 56 ∧ R = []) := by
  have hpl := hfit.plen
  refine Ct.mk Tryz.func11 rfl rfl ?_
  refine Cd.seq ?_
  refine Cd.region ?_
  refine Ol.x bxg ?_
  rintro _ _ ⟨g2, rfl, rfl⟩
  refine Ol.p asi ?_
  refine Ol.nil ?_
  refine Cd.seq ?_
  refine Cd.draw mixed 8 (fun j => match j with | 6 => some (fun v R => ∃ n : Nat, v = .int .i64 n ∧ Counted n most (blocksSz f.blocks) ∧ R = []) | _ => none) (fun _ => []) (by kernel_rfl) (by intro j V h; split at h <;> cases h; obtain ⟨n, hn⟩ := counted_ex hm (blocksSz f.blocks); exact ⟨_, _, n, rfl, hn, rfl⟩) (fun u hu => ?_)
  refine Wk.p (fdl fd_api_Func_0) ?_
  refine Wk.p (ld one_L_int (Rd.blk (i := 0) rfl rfl)) ?_
  refine Wk.p (lens sl_L_int) ?_
  refine Wk.p (fdl fd_api_Func_1) ?_
  refine Wk.p (ld one_L_api_Block (Rd.blk (i := 0) rfl rfl)) ?_
  refine Wk.p mvi ?_
  refine Wk.x hu (sp_call en_kit_BlocksOf (fun M w' hh => kit_BlocksOf_ct (hf.now hh) hfit hm)) ?_
  rintro _ _ hu6 ⟨n, rfl, ⟨hn1, hn2⟩, rfl⟩
  refine Wk.p addi ?_
  refine Wk.nil ?_
  rw [needs_cons hu6, needs_none]
  refine Ol.p asi ?_
  refine Ol.nil ?_
  exact Cd.ret ⟨.int .i64 _, ret1 rfl rfl, [], .nil, f.params.length + n, rfl, fun h' => by rw [hn1 (by omega)]; rfl, by omega, rfl⟩
end
end Go.Proofs.YtjenaenakopicaaGreat

/- Picking. -/
namespace Go.Proofs.YtjenaenakopicaaGreat
set_option linter.unusedVariables false
open Go Go.RowKit
set_option maxRecDepth 100000
end Go.Proofs.YtjenaenakopicaaGreat

/- The law 03: its example; IrSafe, walked. -/
namespace Go.Proofs.YtjenaenakopicaaGreat
set_option linter.unusedVariables false
open Go Go.RowKit
set_option maxRecDepth 100000

theorem reads_no {w : World} {B s : Nat} : Reads w B s none 0 [] := ⟨by simp, fun h => absurd h (by omega)⟩
section
def I03 : List RIns := [⟨1, 1, 0, 0, 5, 0, none, 0, [], 0⟩]
def B03 (gi : Nat) (a : Int) : RBlk := ⟨some ⟨gi, 0, none⟩, 1, I03, ⟨3, a, 0, 0⟩⟩
def F03 (gb gi : Nat) (a : Int) : RFun := ⟨none, 0, [], some ⟨gb, 0, none⟩, 1, [B03 gi a]⟩
end
end Go.Proofs.YtjenaenakopicaaGreat

/- The law 08: runs with less fuel, with more answers: plain laws. Calls compared, walked. -/
namespace Go.Proofs.YtjenaenakopicaaGreat
set_option linter.unusedVariables false
open Go Go.RowKit
set_option maxRecDepth 100000

def moreS (s : RSt) (E : List Int) : RSt := { s with ans := s.ans ++ E }
section
structure RecsIn (w : World) (B : Nat) (A : Option Addr) (l : List CRec) : Prop where
  row : Reads w B 2 A l.length (l.flatMap CRec.cells)
  args : ∀ r ∈ l, Reads w B 1 r.A r.args.length (ints r.args)
  len : l.length < 2 ^ 60
  alen : ∀ r ∈ l, r.args.length < 2 ^ 60
theorem two_ne {a b : List CRec} {k : Nat} {x y : CRec} (ha : a[k]? = some x) (hb : b[k]? = some y) (h : x.two ≠ y.two) : a.map CRec.two ≠ b.map CRec.two := fun e => by
  have := congrArg (fun l : List (Int × List Int) => l[k]?) e
  simp only [List.getElem?_map, ha, hb, Option.map_some] at this
  exact h (Option.some.inj this)
set_option maxHeartbeats 2000000 in
theorem law08_sameCalls_ct {w : World} {A B : Option Addr} {c d : Nat} {a b : List CRec} (ha : RecsIn w w.heap.size A a) (hb : RecsIn w w.heap.size B b) :
    Ct Tryz.prog 55 #[.slice A a.length c, .slice B b.length d] w (Is (.bool (decide (a.map CRec.two = b.map CRec.two)))) := by
  have hal := ha.len
  have hbl := hb.len
  refine Ct.mk Tryz.func55 rfl rfl ?_
  refine Cd.seq ?_
  refine Cd.region ?_
  refine Ol.p asb ?_
  refine Ol.nil ?_
  refine Cd.seq ?_
  refine Cd.seq ?_
  refine Cd.region ?_
  refine Ol.p mvs ?_
  refine Ol.p (lens sl_L_api_Call) ?_
  refine Ol.p mvs ?_
  refine Ol.p (lens sl_L_api_Call) ?_
  refine Ol.p nei ?_
  refine Ol.nil ?_
  refine Cd.cond rfl (fun h => ?_) (fun h => ?_)   -- $10
  · have hne : a.map CRec.two ≠ b.map CRec.two := fun e => by
      have := congrArg List.length e
      simp at this
      rw [this] at h
      simp at h
    refine Cd.seq ?_
    refine Cd.region ?_
    refine Ol.p asb ?_
    refine Ol.nil ?_
    exact Cd.ret ⟨.bool false, ret1 rfl rfl, [], .nil, by rw [decide_eq_false hne], rfl⟩
  have hlen : a.length = b.length := by
    have : (a.length : Int) = (b.length : Int) := by simpa using h
    omega
  refine Cd.skip ?_
  refine Cd.seq ?_
  refine Cd.seq ?_
  refine Cd.region ?_
  refine Ol.p asi ?_
  refine Ol.nil ?_
  refine Cd.block ?_   -- 0
  refine Cd.loop (fun m σ L => ∃ k, m = a.length - k ∧ k ≤ a.length ∧ (a.take k).map CRec.two = (b.take k).map CRec.two ∧ Has σ [(0, .slice A a.length c), (1, .slice B b.length d), (5, .int .i64 k)] ∧ [] = L) (n := a.length) ⟨0, rfl, Nat.zero_le _, rfl, ⟨rfl, rfl, rfl, trivial⟩, rfl⟩ ?_
  rintro _ σ L ⟨k, rfl, hk, hsame, hs, rfl⟩
  refine Cd.has hs ?_
  refine Cd.seq ?_
  refine Cd.seq ?_
  refine Cd.region ?_
  refine Ol.p mvi ?_
  refine Ol.p mvs ?_
  refine Ol.p (lens sl_L_api_Call) ?_
  refine Ol.p lsi ?_
  refine Ol.nil ?_
  refine Cd.cond rfl (fun h => ?_) (fun h => ?_)   -- $14
  · have hlt : k < a.length := by
      simp only [decide_eq_true_eq] at h; omega
    obtain ⟨x, hx⟩ : ∃ x, a[k]? = some x := ⟨_, List.getElem?_eq_getElem hlt⟩
    obtain ⟨y, hy⟩ : ∃ y, b[k]? = some y := ⟨_, List.getElem?_eq_getElem (by omega)⟩
    have hxm := List.mem_of_getElem? hx
    have hym := List.mem_of_getElem? hy
    have hxl := ha.alen x hxm
    have hyl := hb.alen y hym
    refine Cd.skip ?_
    refine Cd.seq ?_
    refine Cd.block ?_   -- 1
    refine Cd.mid (fun σ' L' => Has σ' [(0, .slice A a.length c), (1, .slice B b.length d), (5, .int .i64 k), (41, .bool (!decide (x.two = y.two)))] ∧ [] = L') ?_ ?_
    · cases h11 : !decide (x.callee = y.callee) with
      | true =>
        have hne : ¬ x.two = y.two := fun e => by
          have : x.callee = y.callee := congrArg Prod.fst e
          simp [this] at h11
        refine Cd.draw mixed 25 (fun _ => none) (fun _ => []) (by kernel_rfl) (fun _ _ h => by cases h) (fun u hu => ?_)
        refine Wk.p mvs ?_
        refine Wk.p mvi ?_
        refine Wk.p (ixn (ix := k) sl_L_api_Call (Som.slc ha.row (by omega))) ?_
        refine Wk.p (fdp fd_api_Call_0) ?_
        refine Wk.p (ld (v := .int .i64 x.callee) one_int (Rd.slc ha.row (rec_cell (j := 0) hx rfl))) ?_
        refine Wk.p mvs ?_
        refine Wk.p mvi ?_
        refine Wk.p (ixn (ix := k) sl_L_api_Call (Som.slc hb.row (by omega))) ?_
        refine Wk.p (fdp fd_api_Call_0) ?_
        refine Wk.p (ld (v := .int .i64 y.callee) one_int (Rd.slc hb.row (rec_cell (j := 0) hy rfl))) ?_
        refine Wk.p nei ?_
        refine Wk.p mvb ?_
        refine Wk.gn h11 ?_
        refine Wk.gn h11 ?_
        refine Wk.gn h11 ?_
        refine Wk.gn h11 ?_
        refine Wk.gn h11 ?_
        refine Wk.gn h11 ?_
        refine Wk.gn h11 ?_
        refine Wk.gn h11 ?_
        refine Wk.gn h11 ?_
        refine Wk.gn h11 ?_
        refine Wk.gn h11 ?_
        refine Wk.gn h11 ?_
        refine Wk.p (pkTb h11) ?_
        refine Wk.nil ?_
        refine Ol.nil ?_
        exact ⟨⟨rfl, rfl, rfl, congrArg Value.bool (by simp [hne]), trivial⟩, rfl⟩
      | false =>
        have hce : x.callee = y.callee := by simpa using h11
        refine Cd.draw mixed 25 (exIs (fun opNo => match opNo with | 22 => some (.bool (decide (x.args = y.args))) | _ => none)) (fun _ => []) (by kernel_rfl) exIs_in (fun u hu => ?_)
        refine Wk.p mvs ?_
        refine Wk.p mvi ?_
        refine Wk.p (ixn (ix := k) sl_L_api_Call (Som.slc ha.row (by omega))) ?_
        refine Wk.p (fdp fd_api_Call_0) ?_
        refine Wk.p (ld (v := .int .i64 x.callee) one_int (Rd.slc ha.row (rec_cell (j := 0) hx rfl))) ?_
        refine Wk.p mvs ?_
        refine Wk.p mvi ?_
        refine Wk.p (ixn (ix := k) sl_L_api_Call (Som.slc hb.row (by omega))) ?_
        refine Wk.p (fdp fd_api_Call_0) ?_
        refine Wk.p (ld (v := .int .i64 y.callee) one_int (Rd.slc hb.row (rec_cell (j := 0) hy rfl))) ?_
        refine Wk.p nei ?_
        refine Wk.p mvb ?_
        refine Wk.gp h11 mvs ?_
        refine Wk.gp h11 mvi ?_
        refine Wk.gp h11 (ixn (ix := k) sl_L_api_Call (Som.slc ha.row (by omega))) ?_
        refine Wk.gp h11 (fdp fd_api_Call_1) ?_
        refine Wk.gp h11 (ld (v := .slice x.A x.args.length x.c) one_L_int (Rd.slc ha.row (rec_cell (j := 1) hx rfl))) ?_
        refine Wk.gp h11 mvs ?_
        refine Wk.gp h11 mvi ?_
        refine Wk.gp h11 (ixn (ix := k) sl_L_api_Call (Som.slc hb.row (by omega))) ?_
        refine Wk.gp h11 (fdp fd_api_Call_1) ?_
        refine Wk.gp h11 (ld (v := .slice y.A y.args.length y.c) one_L_int (Rd.slc hb.row (rec_cell (j := 1) hy rfl))) ?_
        refine Wk.gdk hu h11 (sp_call en_kit_SameInts (fun M w' hh => kit_SameInts_ct ((ha.args x hxm).now hh) ((hb.args y hym).now hh) (by omega) (by omega))) ?_
        refine Wk.gp h11 noti ?_
        refine Wk.p (pkFb h11) ?_
        refine Wk.nil ?_
        rw [needs_exIs hu rfl]
        refine Ol.nil ?_
        refine ⟨⟨rfl, rfl, rfl, congrArg Value.bool ?_, trivial⟩, rfl⟩
        have : x.two = y.two ↔ x.args = y.args := by simp [CRec.two, hce]
        rw [decide_eq_decide.2 this]
    rintro σ' _ ⟨hs', rfl⟩
    refine Cd.has hs' ?_
    refine Cd.cond rfl (fun h => ?_) (fun h => ?_)   -- $41
    · have hne : x.two ≠ y.two := by simpa using h
      refine Cd.seq ?_
      refine Cd.region ?_
      refine Ol.p asb ?_
      refine Ol.nil ?_
      exact Cd.ret ⟨.bool false, ret1 rfl rfl, [], .nil, by rw [decide_eq_false (two_ne hx hy hne)], rfl⟩
    have heq : x.two = y.two := by simpa using h
    refine Cd.skip ?_
    refine Cd.region ?_
    refine Ol.p mvi ?_
    refine Ol.p addi ?_
    refine Ol.p asi ?_
    refine Ol.nil ?_
    refine ⟨a.length - (k + 1), by omega, k + 1, rfl, by omega, ?_, ⟨rfl, rfl, rfl, trivial⟩, rfl⟩
    rw [take_snoc_ hx, take_snoc_ hy, List.map_append, List.map_append, hsame, List.map_singleton, List.map_singleton, heq]
  have hke : k = a.length := by
    simp only [decide_eq_false_iff_not] at h; omega
  have heq : a.map CRec.two = b.map CRec.two := by
    rw [hke, List.take_of_length_le (Nat.le_refl _), hlen, List.take_of_length_le (Nat.le_refl _)] at hsame
    exact hsame
  refine Cd.exit (id := 0) ?_
  refine Cd.seq ?_
  refine Cd.region ?_
  refine Ol.p asb ?_
  refine Ol.nil ?_
  exact Cd.ret ⟨.bool true, ret1 rfl rfl, [], .nil, by rw [decide_eq_true heq], rfl⟩
end
end Go.Proofs.YtjenaenakopicaaGreat

/- The package run: each variable that is read has a value (plain law); At, Var, the law's goes, walked. -/
namespace Go.Proofs.YtjenaenakopicaaGreat
set_option linter.unusedVariables false
open Go Go.RowKit
set_option maxRecDepth 100000

theorem lkc {P : Program} {w0 : World} {B : Nat} {σ : Env} {L : List Res} {d : Option Nat} {ty T : TypeId} {pos : String} {af : Array Edge} {gd : Option (Nat × Bool)} {x y : Operand} {i g : Nat} {es : Array MapEntry} {cl : Nat} {n : Int} {zv : Value} (hT : MpT P T zv) (hi : L[i]? = some (blk g (.map es cl))) (ha : AllI es.toList) (hx : ev σ x = .map (some g) := by exact rfl) (hy : ev σ y = .int .i64 n := by exact rfl) :
    Sd P w0 B ⟨d, .lookup T x y true, ty, pos, af, gd⟩ σ L (.tuple #[(mget es.toList n).getD zv, .bool (mget es.toList n).isSome]) := sp_read fun M w hh => by
  obtain ⟨k, e, h1, h2, h3⟩ := hT
  have hg : w.heap[g]? = some (.map es cl) := hh.at_ hi
  obtain ⟨r, hr, hc⟩ := findNow_int n es.toList 0 ha
  have hf := run_findKey_int (P := P) h2 hr w
  have hck := run_checkKey_int (P := P) (b := es.isEmpty) (n := n) h2 w
  simp only [execOp, hx, hy, Instr.lookup, Sem.run_bind, run_underlying h1, Result.andThen_ok, run_getObj hg, Sem.run_pure, hck, hf]
  rcases hc with ⟨rfl, hn⟩ | ⟨j, e', rfl, _, _, h3', _⟩
  · simp [run_zero h3, mget, hn]
  · simp [mget, h3']
/-- What has no value yet is bare here. -/
def Unset (g : RFun) (s : RSt) : Prop := ∀ v : Int, 1 ≤ v → s.vars v = none → Bare g v.toNat s.b ∧ ∀ x, g.blocks[s.b]? = some x → ∀ k i, k < s.i → x.ins[k]? = some i → defI i ≠ v
theorem insV_vars (s : RSt) (i : RIns) : (insV s i).1.vars = s.vars := by
  unfold insV
  split
  · rfl
  split
  · rfl
  split
  · unfold callF; split <;> rfl
  split
  · unfold memF
    split
    · rfl
    split <;> rfl
  rfl
theorem insF_vars {s : RSt} {i : RIns} {v : Int} (h : (insF s i).1.vars v ≠ s.vars v) : 0 < i.dst ∧ v = i.dst := by
  unfold insF at h
  split at h
  · change (insS (insV s i).1 i (insV s i).2.1).vars v ≠ s.vars v at h
    unfold insS at h
    split at h
    · rename_i hd
      refine ⟨hd, ?_⟩
      change updI (insV s i).1.vars i.dst _ v ≠ s.vars v at h
      unfold updI at h
      split at h
      · assumption
      · rw [insV_vars] at h; exact absurd rfl h
    · rw [insV_vars] at h; exact absurd rfl h
  · change (insV s i).1.vars v ≠ s.vars v at h
    rw [insV_vars] at h; exact absurd rfl h
section
theorem run_Var_cm {w0 : World} {B : Nat} {y : RLay} {s : RSt} {v : Int} (hok : RunOk w0 B y s) :
    Cm Tryz.prog 67 #[.pointer (some ⟨y.gR, 0, none⟩), .int .i64 v] w0 B (runL y s) (fun u L => u = .tuple #[.int .i64 (s.get v), .bool (s.vars v).isSome] ∧ L = runL y s) := by
  refine Cm.mk Tryz.func67 rfl rfl fun M => ?_
  refine Cd.seq ?_
  refine Cd.region ?_
  refine Ol.p asi ?_
  refine Ol.p asb ?_
  refine Ol.nil ?_
  refine Cd.seq ?_
  refine Cd.seq ?_
  refine Cd.region ?_
  refine Ol.p mvp ?_
  refine Ol.p (epn pt_P_run_Run) ?_
  refine Ol.nil ?_
  refine Cd.cond rfl (fun h => nomatch h) (fun h => ?_)   -- $9
  refine Cd.skip ?_
  refine Cd.seq ?_
  have e : Value.tuple #[(mget y.es.toList v).getD (.int .i64 0), .bool (mget y.es.toList v).isSome] = .tuple #[.int .i64 (s.get v), .bool (s.vars v).isSome] := by
    rw [hok.getD, hok.get]
    cases s.vars v <;> rfl
  refine Cd.region ?_
  refine Ol.p mvp ?_
  refine Ol.p nlc ?_
  refine Ol.p (fdl fd_run_Run_0) ?_
  refine Ol.p (ld (v := .map (some y.gM)) one_run_vars (Rd.blk (i := 0) rfl rfl)) ?_
  refine Ol.p mvi ?_
  refine Ol.p (e ▸ lkc mt_run_vars (i := 1) rfl hok.all) ?_
  refine Ol.p mvt ?_
  refine Ol.p extv ?_
  refine Ol.p extv ?_
  refine Ol.p asi ?_
  refine Ol.p asb ?_
  refine Ol.nil ?_
  refine Cd.seq ?_
  refine Cd.region ?_
  refine Ol.p mvi ?_
  refine Ol.p mvb ?_
  refine Ol.p asi ?_
  refine Ol.p asb ?_
  refine Ol.nil ?_
  exact Cd.ret ⟨.tuple #[.int .i64 (s.get v), .bool (s.vars v).isSome], ret2 rfl rfl rfl, _, .all, rfl, rfl⟩
end
section
theorem run_At_cm {w0 : World} {B : Nat} {y : RLay} {s : RSt} :
    Cm Tryz.prog 66 #[.pointer (some ⟨y.gR, 0, none⟩)] w0 B (runL y s) (fun u L => u = .tuple #[.int .i64 s.b, .int .i64 s.i] ∧ L = runL y s) := by
  refine Cm.mk Tryz.func66 rfl rfl fun M => ?_
  refine Cd.seq ?_
  refine Cd.region ?_
  refine Ol.p asi ?_
  refine Ol.p asi ?_
  refine Ol.nil ?_
  refine Cd.seq ?_
  refine Cd.seq ?_
  refine Cd.region ?_
  refine Ol.p mvp ?_
  refine Ol.p (epn pt_P_run_Run) ?_
  refine Ol.nil ?_
  refine Cd.cond rfl (fun h => nomatch h) (fun h => ?_)   -- $5
  refine Cd.skip ?_
  refine Cd.seq ?_
  refine Cd.draw mixed 12 (fun _ => none) (fun _ => []) (by kernel_rfl) (fun _ _ h => by cases h) (fun u hu => ?_)
  refine Wk.p mvp ?_
  refine Wk.p nlc ?_
  refine Wk.p (fdl fd_run_Run_1) ?_
  refine Wk.p (fdl fd_run_spot_0) ?_
  refine Wk.p (ld (v := .int .i64 s.b) one_int (Rd.blk (i := 0) rfl rfl)) ?_
  refine Wk.p mvp ?_
  refine Wk.p nlc ?_
  refine Wk.p (fdl fd_run_Run_1) ?_
  refine Wk.p (fdl fd_run_spot_1) ?_
  refine Wk.p (ld (v := .int .i64 s.i) one_int (Rd.blk (i := 0) rfl rfl)) ?_
  refine Wk.p asi ?_
  refine Wk.p asi ?_
  refine Wk.nil ?_
  refine Ol.nil ?_
  exact Cd.ret ⟨.tuple #[.int .i64 s.b, .int .i64 s.i], ret2 rfl rfl rfl, _, .all, rfl, rfl⟩
end
end Go.Proofs.YtjenaenakopicaaGreat

/- Reference 08: any instruction, a step, walked. -/
namespace Go.Proofs.YtjenaenakopicaaGreat
set_option linter.unusedVariables false
set_option linter.unusedSimpArgs false
open Go Go.RowKit
set_option maxRecDepth 100000
theorem Cm.mono {P : Program} {f : FuncId} {args : Array Value} {w0 : World} {B : Nat} {Lin : List Res} {R R' : Value → List Res → Prop} (h : Cm P f args w0 B Lin R) (hr : ∀ v L, R v L → R' v L) : Cm P f args w0 B Lin R' := fun M w hh =>
  CallsIn.mono (h M w hh) fun _ _ ⟨v, he, L, h1, hR⟩ => ⟨v, he, L, h1, hr _ _ hR⟩
theorem Cm.frame {P : Program} {f : FuncId} {args : Array Value} {w0 : World} {B : Nat} {Lin Lin' D : List Res} {R : Value → List Res → Prop} (hp : Lin'.Perm (Lin ++ D)) (h : Cm P f args w0 B Lin R) : Cm P f args w0 B Lin' (fun v L => ∃ L0, L = L0 ++ D ∧ R v L0) := fun M w hh =>
  CallsIn.mono (h (M ++ D) w (hh.perm (by
    refine (hp.append_left M).trans ?_
    rw [List.append_assoc]
    exact List.Perm.append_left M List.perm_append_comm))) fun _ _ ⟨v, he, L, h1, hR⟩ => ⟨v, he, L ++ D, h1.perm (by
    rw [List.append_assoc]
    exact List.Perm.append_left M List.perm_append_comm), L, rfl, hR⟩
theorem isIns_op {i : RIns} (h : isIns i = true) : 1 ≤ i.op ∧ i.op ≤ 14 := by
  have hs : (shp i.op).2 = true := by
    unfold isIns at h
    cases hs : (shp i.op).2 with
    | true => rfl
    | false => rw [hs] at h; simp at h
  unfold shp at hs
  by_cases a1 : i.op = 13
  · omega
  by_cases a2 : i.op = 1
  · omega
  by_cases a3 : i.op = 12
  · omega
  by_cases a4 : i.op = 11
  · omega
  by_cases a5 : i.op = 14
  · omega
  rw [decide_eq_false a1, decide_eq_false a2, decide_eq_false a3, decide_eq_false a4, decide_eq_false a5] at hs
  simp only [cond_false, Bool.and_eq_true, decide_eq_true_eq] at hs
  omega
theorem isIns_dst0 {i : RIns} (h : isIns i = true) (h12 : i.op = 12) : i.dst = 0 := by
  have hs : shp i.op = (⟨false, true, true, true, false⟩, true) := by rw [h12]; rfl
  unfold isIns at h
  rw [hs] at h
  cases h1 : (!true || !decide (i.many = 0)) with
  | true => rw [h1] at h; cases h
  | false =>
    rw [h1, cond_false, cond_false] at h
    cases h2 : ((!true && !decide (i.imm = 0)) || decide (i.imm < -1099511627776) || decide (1099511627776 < i.imm)) with
    | true => rw [h2] at h; cases h
    | false =>
      rw [h2, cond_false] at h
      simp only [Bool.and_eq_true] at h
      have := h.1.1.2
      simpa [fitsB] using this
theorem isTerm_ar {t : Tm} (h : isTerm t = true) : 0 ≤ t.a ∧ t.a ≤ 200 := by
  have := isTerm_a h
  omega
theorem nxS_spot (s : RSt) : nxS s (.spot (s.b : Int) ((s.i : Int) + 1)) = { s with i := s.i + 1 } := by
  show ({ s with b := ((s.b : Nat) : Int).toNat, i := (((s.i : Nat) : Int) + 1).toNat } : RSt) = _
  rw [show ((s.b : Nat) : Int).toNat = s.b from Int.toNat_natCast _, show (((s.i : Nat) : Int) + 1).toNat = s.i + 1 by omega]
theorem nxS_trap {s : RSt} (hv : s.v = 0) : nxS s (.done 2 0) = { s with e := 2 } := by
  show ({ s with e := 2, v := 0 } : RSt) = { s with e := 2 }
  rw [← hv]
theorem insF_go {s s' : RSt} {i : RIns} {v : Int} (h : insV s i = (s', v, true)) : nxS (insF s i).1 (insF s i).2 = { insS s' i v with i := s'.i + 1 } := by
  have e1 : insF s i = (insS s' i v, .spot s'.b ((s'.i : Int) + 1)) := by
    unfold insF
    rw [h]
    rfl
  have e2 : (insS s' i v).b = s'.b ∧ (insS s' i v).i = s'.i := by
    unfold insS
    split <;> exact ⟨rfl, rfl⟩
  rw [e1]
  show nxS (insS s' i v) (.spot (s'.b : Int) ((s'.i : Int) + 1)) = _
  rw [← e2.1, ← e2.2, nxS_spot]
theorem insF_no {s s' : RSt} {i : RIns} {v : Int} (h : insV s i = (s', v, false)) (hv : s'.v = 0) : nxS (insF s i).1 (insF s i).2 = { s' with e := 2 } := by
  have e1 : insF s i = (s', .done 2 0) := by
    unfold insF
    rw [h]
    rfl
  rw [e1]
  exact nxS_trap hv
/-- What is so in a run all the while: variables are 1 to 200; no value is told while it stands. -/
structure Keeps8 (s : RSt) : Prop where
  vars : ∀ k, s.vars k ≠ none → 1 ≤ k ∧ k ≤ 200
  v : s.e = 0 → s.v = 0
theorem Keeps8.get0 {s : RSt} (h : Keeps8 s) : s.get 0 = 0 := by
  unfold RSt.get
  cases hc : s.vars 0 with
  | none => rfl
  | some n => have := h.vars 0 (by rw [hc]; exact fun h => by cases h); omega
theorem insV_v (s : RSt) (i : RIns) : (insV s i).1.v = s.v := by
  unfold insV
  split
  · rfl
  split
  · rfl
  split
  · unfold callF; split <;> rfl
  split
  · unfold memF
    split
    · rfl
    split <;> rfl
  rfl
theorem stepB_v (s : RSt) (b : RBlk) : (stepB s b).1.v = s.v := by
  unfold stepB
  split
  · rename_i i hi
    have h := insV_v (tick s) i
    unfold insF
    split
    · show (insS (insV (tick s) i).1 i (insV (tick s) i).2.1).v = _
      unfold insS
      split <;> exact h
    · exact h
  · rfl
theorem stepB_vars {s : RSt} {b : RBlk} {v : Int} (h : (stepB s b).1.vars v ≠ s.vars v) : ∃ i, i ∈ b.ins ∧ 0 < i.dst ∧ v = i.dst := by
  unfold stepB at h
  cases hi : b.ins[s.i]? with
  | none => rw [hi] at h; exact absurd rfl h
  | some i =>
    rw [hi] at h
    obtain ⟨h1, h2⟩ := insF_vars (s := tick s) h
    exact ⟨i, List.mem_of_getElem? hi, h1, h2⟩
theorem Keeps8.step {g : RFun} {s : RSt} {b : RBlk} (hw : ∀ b ∈ g.blocks, b.ins.all isIns = true) (hb : g.blocks[s.b]? = some b) (he : s.e = 0) (h : Keeps8 s) : Keeps8 (stepR g s) := by
  have hS : stepR g s = nxS (stepB s b).1 (stepB s b).2 := by unfold stepR; rw [hb]
  have e2 : ∀ x, (nxS (stepB s b).1 x).vars = (stepB s b).1.vars := fun x => by cases x <;> rfl
  rw [hS]
  refine ⟨fun k hk => ?_, fun h0 => ?_⟩
  · rw [e2] at hk
    by_cases hc : (stepB s b).1.vars k = s.vars k
    · rw [hc] at hk
      exact h.vars k hk
    · obtain ⟨i, hi, hd, rfl⟩ := stepB_vars hc
      have := hw b (List.mem_of_getElem? hb)
      rw [List.all_eq_true] at this
      have := (isIns_parts (this i hi)).1
      omega
  · cases hx : (stepB s b).2 with
    | spot bb ii =>
      show (stepB s b).1.v = 0
      rw [stepB_v]
      exact h.v he
    | done e v =>
      rw [hx] at h0
      have h0' : e = 0 := h0
      rcases stepB_done hx with h | h <;> omega
theorem begV_in : ∀ {l : List (Int × Int)} {f : Int → Option Int} {v : Int}, l.foldl (fun f p => updI f p.1 p.2) f v ≠ none → f v ≠ none ∨ ∃ p ∈ l, p.1 = v
  | [], f, v, h => .inl h
  | p :: l, f, v, h => by
    rcases begV_in (l := l) (f := updI f p.1 p.2) h with h | ⟨q, hq, h⟩
    · unfold updI at h
      by_cases hv : v = p.1
      · exact .inr ⟨p, List.mem_cons_self .., hv.symm⟩
      · rw [if_neg hv] at h
        exact .inl h
    · exact .inr ⟨q, List.mem_cons_of_mem _ hq, h⟩
theorem Keeps8.beg {f : RFun} {args mem ans : List Int} (hp : ∀ p ∈ f.params, 1 ≤ p ∧ p ≤ 200) : Keeps8 (begS f args mem ans) := by
  refine ⟨fun k hk => ?_, fun _ => rfl⟩
  rcases begV_in (l := f.params.zip args) (f := fun _ => none) hk with h | ⟨q, hq, h⟩
  · exact absurd rfl h
  · rw [← h]
    exact hp _ (List.of_mem_zip hq).1
section
def WTo (w0 : World) (B : Nat) (F0 F1 : Value) (y : RLay) (s' : RSt) (u : Value) : Value → List Res → Prop := fun v L => v = u ∧ ∃ y', y'.gR = y.gR ∧ WOk w0 B y' s' ∧ L = wL F0 F1 y' s'
theorem WOk.eqs {w0 : World} {B : Nat} {y : RLay} {s s' : RSt} (h : WOk w0 B y s) (h2 : s'.calls = s.calls) (h3 : s'.ans = s.ans) : WOk w0 B y s' :=
  ⟨h2.trans h.calls, by rw [h3]; exact h.ans, by rw [h3]; exact h.acap⟩
theorem wTo_of {P : Program} {fn : FuncId} {vs_ : Array Value} {w0 : World} {B : Nat} {F0 F1 : Value} {y : RLay} {s s' : RSt} (hok : WOk w0 B y s) (h1 : s'.calls = s.calls) (h2 : s'.ans = s.ans) (h3 : s'.mem.length = s.mem.length)
    (hcm : Cm P fn vs_ w0 B [wB F0 F1 y s, memRow y s] (fun u L => u = .tuple #[] ∧ L = [blk y.gR (.cells (wC F0 F1 (.slice y.mA s.mem.length y.mC) (.slice y.aA s.ans.length y.aC) (.slice y.cA s.calls.length y.cC) s') 84), row (.slice y.mA s.mem.length y.mC) 3 1 s.mem.length (ints s'.mem)])) :
    Cm P fn vs_ w0 B (wL F0 F1 y s) (WTo w0 B F0 F1 y s' (.tuple #[])) := by
  refine Cm.mono (Cm.frame (Lin := [wB F0 F1 y s, memRow y s]) (D := y.a0 :: callRow y s :: y.recs.map callRes) (.refl _) hcm) ?_
  rintro v _ ⟨_, rfl, hv, rfl⟩
  refine ⟨hv, y, rfl, hok.eqs h1 h2, ?_⟩
  unfold wL wB memRow callRow
  rw [h1, h2, h3]
  rfl
theorem ref08_ins_cm {w0 : World} {B : Nat} {F0 F1 : Value} {y : RLay} {s : RSt} {i : RIns} (hok : WOk w0 B y s) (hi : isIns i = true) (hia : Reads w0 B 1 i.aA i.args.length (ints i.args)) (hcl : s.calls.length < 2 ^ 40) (hsp : s.i < 2 ^ 60) (hv : s.v = 0) :
    Cm Tryz.prog 64 #[.pointer (some ⟨y.gR, 0, none⟩), i.val] w0 B (wL F0 F1 y s) (WTo w0 B F0 F1 y (nxS (insF s i).1 (insF s i).2) (.tuple #[])) := by
  by_cases h13 : i.op = 13
  · exact ref08_ins_call_cm hok hi h13 hia hcl hsp hv
  have hop := isIns_op hi
  by_cases h1 : i.op = 1 ∨ i.op = 14
  · have hd := isIns_dst hi (by omega) (by omega)
    have hV : insV s i = (s, (if i.op = 1 then i.imm else s.get i.a), true) := by
      unfold insV
      by_cases h : i.op = 1
      · rw [if_pos h, if_pos h]
      · rw [if_neg h, if_neg h, if_pos (by omega)]
    rw [insF_go hV, show insS s i (if i.op = 1 then i.imm else s.get i.a) = setsV s i (if i.op = 1 then i.imm else s.get i.a) from if_pos (by omega)]
    exact wTo_of hok rfl rfl rfl (ref08_ins_copy_cm hi h1 hsp)
  by_cases h2 : i.op = 11
  · have hd := isIns_dst hi (by omega) (by omega)
    have hV : insV s i = memF s i := by
      unfold insV
      rw [if_neg (by omega), if_neg (by omega), if_neg h13, if_pos (.inl h2)]
    have hcm := fun R hR => ref08_ins_load_cm (w0 := w0) (B := B) (g := y.gR) (mC := y.mC) (mA := y.mA) (F0 := F0) (F1 := F1) (a := .slice y.aA s.ans.length y.aC) (c := .slice y.cA s.calls.length y.cC) (s := s) hi h2 hsp R hR
    cases hR : memAt s (wI (s.get i.a + i.imm)) with
    | none =>
      have hm : memF s i = (s, i.imm, false) := by unfold memF; rw [hR]
      rw [insF_no (hV.trans hm) hv]
      exact wTo_of hok rfl rfl rfl (hcm none hR)
    | some q =>
      have hm : memF s i = (s, s.mem.getD q 0, true) := by unfold memF; rw [hR]; exact if_neg (by omega)
      rw [insF_go (hV.trans hm), show insS s i (s.mem.getD q 0) = setsV s i (s.mem.getD q 0) from if_pos (by omega)]
      exact wTo_of hok rfl rfl rfl (hcm (some q) hR)
  by_cases h3 : i.op = 12
  · have hd := isIns_dst0 hi h3
    have hV : insV s i = memF s i := by
      unfold insV
      rw [if_neg (by omega), if_neg (by omega), if_neg h13, if_pos (.inr h3)]
    have hcm := fun R hR => ref08_ins_store_cm (w0 := w0) (B := B) (g := y.gR) (mC := y.mC) (mA := y.mA) (F0 := F0) (F1 := F1) (a := .slice y.aA s.ans.length y.aC) (c := .slice y.cA s.calls.length y.cC) (s := s) hi h3 hsp R hR
    cases hR : memAt s (wI (s.get i.a + i.imm)) with
    | none =>
      have hm : memF s i = (s, i.imm, false) := by unfold memF; rw [hR]
      rw [insF_no (hV.trans hm) hv]
      exact wTo_of hok rfl rfl rfl (hcm none hR)
    | some q =>
      have hm : memF s i = ({ s with mem := s.mem.set q (s.get i.b) }, s.get i.b, true) := by unfold memF; rw [hR]; exact if_pos h3
      rw [insF_go (hV.trans hm), show insS { s with mem := s.mem.set q (s.get i.b) } i (s.get i.b) = { s with mem := s.mem.set q (s.get i.b) } from if_neg (by omega)]
      exact wTo_of hok rfl rfl (by simp) (hcm (some q) hR)
  have h4 : 2 ≤ i.op ∧ i.op ≤ 10 := by omega
  have hd := isIns_dst hi (by omega) (by omega)
  have hV : insV s i = (s, (calcF i.op (s.get i.a) (s.get i.b)).1, (calcF i.op (s.get i.a) (s.get i.b)).2) := by
    unfold insV
    rw [if_neg (by omega), if_neg (by omega), if_neg h13, if_neg (by omega)]
  have hcm := ref08_ins_calc_cm (w0 := w0) (B := B) (g := y.gR) (mC := y.mC) (mA := y.mA) (F0 := F0) (F1 := F1) (a := .slice y.aA s.ans.length y.aC) (c := .slice y.cA s.calls.length y.cC) (s := s) hi h4 hsp
  by_cases hc : (calcF i.op (s.get i.a) (s.get i.b)).2 = true
  · rw [if_pos hc] at hcm
    rw [hc] at hV
    rw [insF_go hV, show insS s i (calcF i.op (s.get i.a) (s.get i.b)).1 = setsV s i (calcF i.op (s.get i.a) (s.get i.b)).1 from if_pos (by omega)]
    exact wTo_of hok rfl rfl rfl hcm
  · rw [if_neg hc] at hcm
    have hcf : (calcF i.op (s.get i.a) (s.get i.b)).2 = false := by simpa using hc
    rw [hcf] at hV
    rw [insF_no hV hv]
    exact wTo_of hok rfl rfl rfl hcm
end
section
theorem ref08_term_wm {w0 : World} {B : Nat} {F0 F1 : Value} {y : RLay} {s : RSt} {t : Tm} (hok : WOk w0 B y s) (ha : 0 ≤ t.a ∧ t.a ≤ 200) (h0 : s.get 0 = 0) (hv : s.v = 0) (hsp : ∀ bb ii, termF s t = .spot bb ii → 0 ≤ bb) :
    Cm Tryz.prog 65 #[.pointer (some ⟨y.gR, 0, none⟩), t.val] w0 B (wL F0 F1 y s) (WTo w0 B F0 F1 y (nxS s (termF s t)) (.tuple #[])) := by
  refine Cm.mono (Cm.frame (Lin := [wB F0 F1 y s]) (D := memRow y s :: y.a0 :: callRow y s :: y.recs.map callRes) (.refl _) (ref08_term_cm ha h0 hv hsp)) ?_
  rintro v _ ⟨_, rfl, hv, rfl⟩
  have e : ∀ x, (nxS s x).calls = s.calls ∧ (nxS s x).ans = s.ans ∧ (nxS s x).mem = s.mem := fun x => by cases x <;> exact ⟨rfl, rfl, rfl⟩
  obtain ⟨e1, e2, e3⟩ := e (termF s t)
  refine ⟨hv, y, rfl, hok.eqs e1 e2, ?_⟩
  unfold wL wB memRow callRow
  rw [e1, e2, e3]
  rfl
end
theorem wC_e_at {F0 F1 m a c : Value} {s : RSt} : (wC F0 F1 m a c s)[410]? = some (.int .i64 s.e) := wC_at (by omega)
theorem wC_s_at {F0 F1 m a c : Value} {s : RSt} : (wC F0 F1 m a c s)[409]? = some (.int .i64 (s.steps : Int)) := wC_at (by omega)
theorem wC_b_at {F0 F1 m a c : Value} {s : RSt} : (wC F0 F1 m a c s)[407]? = some (.int .i64 (s.b : Int)) := wC_at (by omega)
theorem wC_v_at {F0 F1 m a c : Value} {s : RSt} : (wC F0 F1 m a c s)[411]? = some (.int .i64 s.v) := wC_at (by omega)
theorem wC_c_at {F0 F1 m a c : Value} {s : RSt} : (wC F0 F1 m a c s)[406]? = some c := wC_at (by omega)
theorem wC_F1_at {F0 F1 m a c : Value} {s : RSt} : (wC F0 F1 m a c s)[1]? = some F1 := wC_at (by omega)
section
theorem ref08_Step_end_cm {w0 : World} {B : Nat} {F0 F1 : Value} {y : RLay} {s : RSt} (hok : WOk w0 B y s) (he : s.e ≠ 0) :
    Cm Tryz.prog 25 #[.pointer (some ⟨y.gR, 0, none⟩)] w0 B (wL F0 F1 y s) (WTo w0 B F0 F1 y s (.bool false)) := by
  refine Cm.mk Tryz.func25 rfl rfl fun M => ?_
  refine Cd.seq ?_
  refine Cd.region ?_
  refine Ol.p asb ?_
  refine Ol.nil ?_
  refine Cd.seq ?_
  refine Cd.seq ?_
  refine Cd.region ?_
  refine Ol.p mvp ?_
  refine Ol.p nlc ?_
  refine Ol.p (fdl fd_ref08_Run_9) ?_
  refine Ol.p (ld (v := .int .i64 s.e) one_api_EndKind (Rd.blk (i := 0) (k := 410) rfl wC_e_at)) ?_
  refine Ol.p nei ?_
  refine Ol.nil ?_
  refine Cd.cond rfl (fun h => ?_) (fun h => absurd (by simpa using h) he)
  refine Cd.seq ?_
  refine Cd.region ?_
  refine Ol.p asb ?_
  refine Ol.nil ?_
  exact Cd.ret ⟨.bool false, ret1 rfl rfl, _, .all, rfl, y, rfl, hok, rfl⟩
set_option maxHeartbeats 4000000 in
theorem ref08_Step_cm {w0 : World} {B : Nat} {f : RFun} {F0 : Value} {y : RLay} {s : RSt} {b : RBlk} (hf : FunAt w0 B f) (hok : WOk w0 B y s) (hk : Keeps8 s) (he : s.e = 0) (hb : f.blocks[s.b]? = some b) (hi : s.i ≤ b.ins.length) (hil : b.ins.length < 2 ^ 50) (hbl : f.blocks.length < 2 ^ 50) (hall : b.ins.all isIns = true) (ht : isTerm b.term = true) (hnx : ∀ bb ii, (stepB s b).2 = .spot bb ii → 0 ≤ bb ∧ 0 ≤ ii) (hcl : s.calls.length < 2 ^ 40) (hst : s.steps < 2 ^ 60) :
    Cm Tryz.prog 25 #[.pointer (some ⟨y.gR, 0, none⟩)] w0 B (wL F0 (.slice f.bA f.blocks.length f.bC) y s) (WTo w0 B F0 (.slice f.bA f.blocks.length f.bC) y (stepR f s) (.bool true)) := by
  have hS : stepR f s = nxS (stepB s b).1 (stepB s b).2 := by unfold stepR; rw [hb]
  rw [hS]
  clear hS
  have hv := hk.v he
  have h0 := hk.get0
  have hbm := List.mem_of_getElem? hb
  have hsb : s.b < f.blocks.length := (List.getElem?_eq_some_iff.1 hb).1
  refine Cm.mk Tryz.func25 rfl rfl fun M => ?_
  refine Cd.seq ?_
  refine Cd.region ?_
  refine Ol.p asb ?_
  refine Ol.nil ?_
  refine Cd.seq ?_
  refine Cd.seq ?_
  refine Cd.region ?_
  refine Ol.p mvp ?_
  refine Ol.p nlc ?_
  refine Ol.p (fdl fd_ref08_Run_9) ?_
  refine Ol.p (ld (v := .int .i64 s.e) one_api_EndKind (Rd.blk (i := 0) (k := 410) rfl wC_e_at)) ?_
  refine Ol.p nei ?_
  refine Ol.nil ?_
  refine Cd.cond rfl (fun h => ?_) (fun h => ?_)   -- $8
  · rw [he] at h
    exact absurd h (by decide)
  refine Cd.skip ?_
  refine Cd.seq ?_
  have hw : wI ((s.steps : Int) + 1) = ((s.steps + 1 : Nat) : Int) := spot_fit s.steps hst
  obtain ⟨W1, hW1⟩ : ∃ W1, W1 = [memRow y s, y.a0, callRow y s] ++ y.recs.map callRes := ⟨_, rfl⟩
  show Cd _ _ _ _ (wB F0 (.slice f.bA f.blocks.length f.bC) y s :: ([memRow y s, y.a0, callRow y s] ++ y.recs.map callRes))
  rw [← hW1]
  refine Cd.region ?_
  refine Ol.p mvp ?_
  refine Ol.p nlc ?_
  refine Ol.p (fdl fd_ref08_Run_8) ?_
  refine Ol.p (ld (v := .int .i64 s.steps) one_int (Rd.blk (i := 0) (k := 409) rfl wC_s_at)) ?_
  refine Ol.p (arw (.inl rfl)) ?_
  refine Ol.p nlc ?_
  refine Ol.p (fdl fd_ref08_Run_8) ?_
  refine Ol.s (sto (v := .int .i64 ((s.steps + 1 : Nat) : Int)) (i := 0) (k := 409) (.inr sz_int) rfl rfl rfl (by rw [wC_size]; omega) (congrArg (Value.int .i64) hw)) ?_
  refine Ol.nil ?_
  show Cd _ _ _ _ (blk y.gR (.cells ((wC F0 (.slice f.bA f.blocks.length f.bC) (.slice y.mA s.mem.length y.mC) (.slice y.aA s.ans.length y.aC) (.slice y.cA s.calls.length y.cC) s).setIfInBounds 409 (.int .i64 ((s.steps + 1 : Nat) : Int))) 84) :: W1)
  have e3 : blk y.gR (.cells ((wC F0 (.slice f.bA f.blocks.length f.bC) (.slice y.mA s.mem.length y.mC) (.slice y.aA s.ans.length y.aC) (.slice y.cA s.calls.length y.cC) s).setIfInBounds 409 (.int .i64 ((s.steps + 1 : Nat) : Int))) 84) :: W1 = wL F0 (.slice f.bA f.blocks.length f.bC) y (tick s) := by
    rw [wC_steps, hW1]
    rfl
  rw [e3]
  have hok1 : WOk w0 B y (tick s) := hok.eqs rfl rfl
  refine Cd.seq ?_
  refine Cd.draw mixed 12 (fun opNo => match opNo with | 11 => some (NewPv (.cells #[.slice none 0 0, .int .i64 0, .int .i64 0, .int .i64 0, .int .i64 0] 34)) | _ => none) (fun _ => []) (by kernel_rfl) (by intro q V h; split at h <;> cases h; exact ⟨_, _, 0, rfl, rfl⟩) (fun u hu => ?_)
  refine Wk.p mvp ?_
  refine Wk.p nlc ?_
  refine Wk.p (fdl fd_ref08_Run_0) ?_
  refine Wk.p (fdl fd_api_Func_1) ?_
  refine Wk.p (ld (v := .slice f.bA f.blocks.length f.bC) one_L_api_Block (Rd.blk (i := 0) (k := 1) rfl wC_F1_at)) ?_
  refine Wk.p mvp ?_
  refine Wk.p nlc ?_
  refine Wk.p (fdl fd_ref08_Run_6) ?_
  refine Wk.p (ld (v := .int .i64 s.b) one_int (Rd.blk (i := 0) (k := 407) rfl wC_b_at)) ?_
  refine Wk.p (ixn (ix := s.b) sl_L_api_Block (Som.slc hf.blocks (by omega))) ?_
  refine Wk.p (lds (es := b.cells) ag_api_Block hf.blocks b.len (fun j u hu => blk_cell hb hu)) ?_
  refine Wk.x (V := NewPv (.cells #[.slice none 0 0, .int .i64 0, .int .i64 0, .int .i64 0, .int .i64 0] 34)) hu (NewP.adds (alc zr_api_Block)) ?_
  rintro _ _ hu11 ⟨g3, rfl, rfl⟩
  refine Wk.nil ?_
  rw [needs_cons hu11, needs_none]
  refine Ol.s (stw (vs := b.cells.toArray) sz_api_Block rfl b.one (i := 0) rfl rfl) ?_
  refine Ol.nil ?_
  refine Cd.mid (fun σ' L' => ∃ y' : RLay, y'.gR = y.gR ∧ WOk w0 B y' (nxS (stepB s b).1 (stepB s b).2) ∧ wL F0 (.slice f.bA f.blocks.length f.bC) y' (nxS (stepB s b).1 (stepB s b).2) ++ [blk g3 (.cells b.cells.toArray 34)] = L') ?_ ?_
  · refine Cd.seq ?_
    refine Cd.draw mixed 8 (fun _ => none) (fun _ => []) (by kernel_rfl) (fun _ _ h => by cases h) (fun u hu => ?_)
    refine Wk.p mvp ?_
    refine Wk.p nlc ?_
    refine Wk.p (fdl fd_ref08_Run_7) ?_
    refine Wk.p (ld (v := .int .i64 s.i) one_int (Rd.blk (i := 1) (k := 408) rfl wC_i_at)) ?_
    refine Wk.p (fdl fd_api_Block_0) ?_
    refine Wk.p (ld (v := .slice b.iA b.ins.length b.iC) one_L_api_Ins (Rd.blk (i := 0) rfl rfl)) ?_
    refine Wk.p (lens sl_L_api_Ins) ?_
    refine Wk.p lsi ?_
    refine Wk.nil ?_
    refine Ol.nil ?_
    refine Cd.cond rfl (fun h => ?_) (fun h => ?_)   -- $34
    · have hlt : s.i < b.ins.length := by
        simp only [decide_eq_true_eq] at h; omega
      obtain ⟨i, hgi⟩ : ∃ i, b.ins[s.i]? = some i := ⟨_, List.getElem?_eq_getElem hlt⟩
      have him := List.mem_of_getElem? hgi
      have hii : isIns i = true := List.all_eq_true.1 hall i him
      have hB : stepB s b = insF (tick s) i := by unfold stepB; rw [hgi]
      rw [hB]
      refine Cd.draw mixed 9 (fun _ => none) (fun _ => []) (by kernel_rfl) (fun _ _ h => by cases h) (fun u hu => ?_)
      refine Wk.p mvp ?_
      refine Wk.p (fdl fd_api_Block_0) ?_
      refine Wk.p (ld (v := .slice b.iA b.ins.length b.iC) one_L_api_Ins (Rd.blk (i := 0) rfl rfl)) ?_
      refine Wk.p mvp ?_
      refine Wk.p nlc ?_
      refine Wk.p (fdl fd_ref08_Run_7) ?_
      refine Wk.p (ld (v := .int .i64 s.i) one_int (Rd.blk (i := 1) (k := 408) rfl wC_i_at)) ?_
      refine Wk.p (ixn (ix := s.i) sl_L_api_Ins (Som.slc (hf.ins b hbm) (by omega))) ?_
      refine Wk.p (lds (es := i.cells) ag_api_Ins (hf.ins b hbm) i.len (fun j u hu => ins_cell hgi hu)) ?_
      refine Wk.nil ?_
      refine Ol.x (sp_callm (vs := [.pointer (some ⟨y.gR, 0, none⟩), i.val]) (Lin := wL F0 (.slice f.bA f.blocks.length f.bC) y (tick s)) (L2 := [blk g3 (.cells b.cells.toArray 34)]) (R := WTo w0 B F0 (.slice f.bA f.blocks.length f.bC) y (nxS (insF (tick s) i).1 (insF (tick s) i).2) (.tuple #[])) en_P_ref08_Run_ins (List.perm_append_comm (l₁ := [_])) (ref08_ins_cm hok1 hii (hf.args b hbm i him) hcl (by show s.i < 2 ^ 60; omega) hv)) ?_
      rintro _ _ ⟨_, rfl, rfl, y', hg1, hok', rfl⟩
      refine Ol.nil ?_
      exact ⟨y', hg1, hok', rfl⟩
    have hge : b.ins.length ≤ s.i := by
      simp only [decide_eq_false_iff_not] at h; omega
    have hB : stepB s b = (tick s, termF (tick s) b.term) := by unfold stepB; rw [List.getElem?_eq_none hge]
    rw [hB]
    refine Cd.region ?_
    refine Ol.p mvp ?_
    refine Ol.p (fdl fd_api_Block_1) ?_
    refine Ol.p (ldp (k := 1) (vs := b.term.cells.toArray) ag_api_Term (i := 0) rfl rfl (fun j u hu => by rw [Nat.add_comm]; simpa [RBlk.cells] using hu)) ?_
    refine Ol.x (sp_callm (vs := [.pointer (some ⟨y.gR, 0, none⟩), b.term.val]) (Lin := wL F0 (.slice f.bA f.blocks.length f.bC) y (tick s)) (L2 := [blk g3 (.cells b.cells.toArray 34)]) (R := WTo w0 B F0 (.slice f.bA f.blocks.length f.bC) y (nxS (tick s) (termF (tick s) b.term)) (.tuple #[])) en_P_ref08_Run_term (List.perm_append_comm (l₁ := [_])) (ref08_term_wm hok1 (isTerm_ar ht) h0 hv (fun bb ii hx => (hnx bb ii (by rw [hB]; exact hx)).1))) ?_
    rintro _ _ ⟨_, rfl, rfl, y', hg1, hok', rfl⟩
    refine Ol.nil ?_
    exact ⟨y', hg1, hok', rfl⟩
  rintro σ' _ ⟨y', hg1, hok', rfl⟩
  refine Cd.seq ?_
  refine Cd.region ?_
  refine Ol.p asb ?_
  refine Ol.nil ?_
  exact Cd.ret ⟨.bool true, ret1 rfl rfl, _, ⟨_, .refl _⟩, rfl, y', hg1, hok', rfl⟩
end
end Go.Proofs.YtjenaenakopicaaGreat

/- The document's answer of layer 03: instructions and ends, walked. -/
namespace Go.Proofs.YtjenaenakopicaaGreat
set_option linter.unusedVariables false
set_option linter.unusedSimpArgs false
open Go Go.RowKit
set_option maxRecDepth 100000

section
variable {P : Program} {w0 : World} {B : Nat} {σ : Env} {L : List Res} {d : Option Nat} {ty T : TypeId} {pos : String} {af : Array Edge} {gd : Option (Nat × Bool)} {x y z : Operand} {v : Value}
theorem lnS {s : ByteArray} (hT : P.underlying T = some .string) (hx : ev σ x = .string s := by exact rfl) : Sd P w0 B ⟨d, .call { callee := .builtin .len, args := #[x], argTypes := #[T] }, ty, pos, af, gd⟩ σ L (.int .i64 s.size) :=
  sp_val fun _ => by simp [execOp, hx, resolve, invoke, builtin, Builtin.len_, run_underlying hT, goInt]
theorem ixS {s : ByteArray} {k : IntKind} {ix : Nat} (hT : P.underlying T = some .string) (hlt : ix < s.size) (hx : ev σ x = .string s := by exact rfl) (hy : ev σ y = .int k (ix : Int) := by exact rfl) : Sd P w0 B ⟨d, .index T x y, ty, pos, af, gd⟩ σ L (.int .u8 (s[ix]'hlt).toNat) :=
  sp_val fun w => by
    have h := run_index_string (P := P) w T s k (ix : Int) hT
    rw [dif_pos ⟨by omega, by omega⟩] at h
    simp only [Int.toNat_natCast] at h
    simp [execOp, hx, hy, h]
theorem eqS {a b : ByteArray} {u : TypeId} (hx : ev σ x = .string a := by exact rfl) (hy : ev σ y = .string b := by exact rfl) : Sd P w0 B ⟨d, .binOp .eql T x y u, ty, pos, af, gd⟩ σ L (.bool (a.toList == b.toList)) :=
  sp_val fun w => by simp [execOp, hx, hy, binOp, Op.stringOp, eqGuard]
end
/-- Which parts an Op has, as letters. -/
def hasS (o : Int) : List UInt8 := if o = 1 then [100, 105] else if 2 ≤ o ∧ o ≤ 10 then [100, 97, 98] else if o = 11 then [100, 97, 105] else if o = 12 then [97, 98, 105] else if o = 13 then [99] else if o = 14 then [100, 97] else []
def strB (l : List UInt8) : ByteArray := ⟨l.toArray⟩
theorem strB_size (l : List UInt8) : (strB l).size = l.length := by simp [strB, ByteArray.size]
theorem strB_list (l : List UInt8) : (strB l).toList = l := ByteArray.toList_mk l
theorem hasS_cases (o : Int) : (hasS o = [100, 105] ∧ shp o = (⟨true, false, false, true, false⟩, true) ∧ o ≠ 13) ∨ (hasS o = [100, 97, 98] ∧ shp o = (⟨true, true, true, false, false⟩, true) ∧ o ≠ 13) ∨ (hasS o = [100, 97, 105] ∧ shp o = (⟨true, true, false, true, false⟩, true) ∧ o ≠ 13) ∨ (hasS o = [97, 98, 105] ∧ shp o = (⟨false, true, true, true, false⟩, true) ∧ o ≠ 13) ∨ (hasS o = [99] ∧ shp o = (⟨false, false, false, false, true⟩, true) ∧ o = 13) ∨ (hasS o = [100, 97] ∧ shp o = (⟨true, true, false, false, false⟩, true) ∧ o ≠ 13) ∨ (hasS o = [] ∧ (shp o).2 = false ∧ o ≠ 13) := by
  unfold hasS shp
  by_cases h1 : o = 1
  · subst h1; exact .inl ⟨rfl, rfl, by decide⟩
  by_cases h11 : o = 11
  · subst h11; exact .inr (.inr (.inl ⟨rfl, rfl, by decide⟩))
  by_cases h12 : o = 12
  · subst h12; exact .inr (.inr (.inr (.inl ⟨rfl, rfl, by decide⟩)))
  by_cases h13 : o = 13
  · subst h13; exact .inr (.inr (.inr (.inr (.inl ⟨rfl, rfl, rfl⟩))))
  by_cases h14 : o = 14
  · subst h14; exact .inr (.inr (.inr (.inr (.inr (.inl ⟨rfl, rfl, by decide⟩)))))
  by_cases h2 : 2 ≤ o ∧ o ≤ 10
  · refine .inr (.inl ⟨by simp [h1, h2], by simp [h1, h11, h12, h13, h14, h2], h13⟩)
  · refine .inr (.inr (.inr (.inr (.inr (.inr ⟨by simp [h1, h2, h11, h12, h13, h14], ?_, h13⟩)))))
    simp only [h1, h11, h12, h13, h14, decide_false, cond_false]
    cases h3 : decide (2 ≤ o) with
    | false => rfl
    | true =>
      rw [Bool.true_and, decide_eq_false_iff_not]
      exact fun h => h2 ⟨of_decide_eq_true h3, h⟩
def partB (l : List UInt8) (c : UInt8) (n : Int) : Bool := bif l.contains c then varB n else decide (n = 0)

section
theorem ref03_Var_ct {w : World} {n : Int} : Ct Tryz.prog 78 #[.int .i64 n] w (Is (.bool (varB n))) := by
  refine Ct.mk Tryz.func78 rfl rfl ?_
  refine Cd.seq ?_
  refine Cd.region ?_
  refine Ol.p asb ?_
  refine Ol.nil ?_
  have e : varB n = (decide (1 ≤ n) && decide (n ≤ 200)) := rfl
  refine Cd.seq ?_
  cases q0 : decide (1 ≤ n) with
  | true =>
    refine Cd.region ?_
    refine Ol.p mvi ?_
    refine Ol.p gei ?_
    refine Ol.p mvb ?_
    refine Ol.gp q0 mvi ?_
    refine Ol.gp q0 lei ?_
    refine Ol.p (pkTb q0) ?_
    refine Ol.p asb ?_
    refine Ol.nil ?_
    refine Cd.ret ⟨.bool _, ret1 rfl rfl, [], Keep.nil, congrArg Value.bool ?_, rfl⟩
    rw [e, q0]; try rfl
  | false =>
    refine Cd.region ?_
    refine Ol.p mvi ?_
    refine Ol.p gei ?_
    refine Ol.p mvb ?_
    refine Ol.gn q0 ?_
    refine Ol.gn q0 ?_
    refine Ol.p (pkFb q0) ?_
    refine Ol.p asb ?_
    refine Ol.nil ?_
    refine Cd.ret ⟨.bool _, ret1 rfl rfl, [], Keep.nil, congrArg Value.bool ?_, rfl⟩
    rw [e, q0]; try rfl
end
section
theorem ref03_has_ct {w : World} {n : Int} : Ct Tryz.prog 76 #[.int .i64 n] w (Is (.string (strB (hasS n)))) := by
  refine Ct.mk Tryz.func76 rfl rfl ?_
  refine Cd.seq ?_
  refine Cd.region ?_
  refine Ol.p (as_ rfl) ?_
  refine Ol.nil ?_
  refine Cd.seq ?_
  refine Cd.block ?_   -- 0
  refine Cd.seq ?_
  refine Cd.region ?_
  refine Ol.p mvi ?_
  refine Ol.p eqi ?_
  refine Ol.p asb ?_
  refine Ol.nil ?_
  refine Cd.cond rfl (fun h => ?_) (fun h1 => ?_)   -- $3
  · have h : n = 1 := of_decide_eq_true h
    refine Cd.seq ?_
    refine Cd.region ?_
    refine Ol.p (as_ rfl) ?_
    refine Ol.nil ?_
    exact Cd.ret ⟨.string (strB [100, 105]), ret1 rfl rfl, [], .nil, by unfold hasS; simp [h], rfl⟩
  have h1 : ¬ n = 1 := of_decide_eq_false h1
  refine Cd.mid (fun σ' L' => Has σ' [(0, .int .i64 n), (6, .bool (decide (2 ≤ n ∧ n ≤ 10)))] ∧ [] = L') ?_ ?_
  · cases h2 : decide (2 ≤ n) with
    | true =>
      refine Cd.region ?_
      refine Ol.p mvi ?_
      refine Ol.p gei ?_
      refine Ol.p mvb ?_
      refine Ol.gp h2 mvi ?_
      refine Ol.gp h2 lei ?_
      refine Ol.p (pkTb h2) ?_
      refine Ol.p asb ?_
      refine Ol.nil ?_
      refine ⟨⟨rfl, congrArg Value.bool ?_, trivial⟩, rfl⟩
      have := of_decide_eq_true h2
      rw [decide_eq_decide]
      omega
    | false =>
      refine Cd.region ?_
      refine Ol.p mvi ?_
      refine Ol.p gei ?_
      refine Ol.p mvb ?_
      refine Ol.gn h2 ?_
      refine Ol.gn h2 ?_
      refine Ol.p (pkFb h2) ?_
      refine Ol.p asb ?_
      refine Ol.nil ?_
      refine ⟨⟨rfl, congrArg Value.bool ?_, trivial⟩, rfl⟩
      have := of_decide_eq_false h2
      exact (decide_eq_false (by omega)).symm
  rintro σ' _ ⟨hs', rfl⟩
  refine Cd.has hs' ?_
  clear hs'
  refine Cd.cond rfl (fun h => ?_) (fun h2 => ?_)   -- $6
  · have h : 2 ≤ n ∧ n ≤ 10 := of_decide_eq_true h
    refine Cd.seq ?_
    refine Cd.region ?_
    refine Ol.p (as_ rfl) ?_
    refine Ol.nil ?_
    exact Cd.ret ⟨.string (strB [100, 97, 98]), ret1 rfl rfl, [], .nil, by unfold hasS; simp [h1, h], rfl⟩
  have h2 : ¬ (2 ≤ n ∧ n ≤ 10) := of_decide_eq_false h2
  refine Cd.seq ?_
  refine Cd.region ?_
  refine Ol.p mvi ?_
  refine Ol.p eqi ?_
  refine Ol.p asb ?_
  refine Ol.nil ?_
  refine Cd.cond rfl (fun h => ?_) (fun h11 => ?_)
  · have h : n = 11 := of_decide_eq_true h
    refine Cd.seq ?_
    refine Cd.region ?_
    refine Ol.p (as_ rfl) ?_
    refine Ol.nil ?_
    exact Cd.ret ⟨.string (strB [100, 97, 105]), ret1 rfl rfl, [], .nil, by unfold hasS; simp [h], rfl⟩
  have h11 : ¬ n = 11 := of_decide_eq_false h11
  refine Cd.seq ?_
  refine Cd.region ?_
  refine Ol.p mvi ?_
  refine Ol.p eqi ?_
  refine Ol.p asb ?_
  refine Ol.nil ?_
  refine Cd.cond rfl (fun h => ?_) (fun h12 => ?_)
  · have h : n = 12 := of_decide_eq_true h
    refine Cd.seq ?_
    refine Cd.region ?_
    refine Ol.p (as_ rfl) ?_
    refine Ol.nil ?_
    exact Cd.ret ⟨.string (strB [97, 98, 105]), ret1 rfl rfl, [], .nil, by unfold hasS; simp [h], rfl⟩
  have h12 : ¬ n = 12 := of_decide_eq_false h12
  refine Cd.seq ?_
  refine Cd.region ?_
  refine Ol.p mvi ?_
  refine Ol.p eqi ?_
  refine Ol.p asb ?_
  refine Ol.nil ?_
  refine Cd.cond rfl (fun h => ?_) (fun h13 => ?_)
  · have h : n = 13 := of_decide_eq_true h
    refine Cd.seq ?_
    refine Cd.region ?_
    refine Ol.p (as_ rfl) ?_
    refine Ol.nil ?_
    exact Cd.ret ⟨.string (strB [99]), ret1 rfl rfl, [], .nil, by unfold hasS; simp [h], rfl⟩
  have h13 : ¬ n = 13 := of_decide_eq_false h13
  refine Cd.seq ?_
  refine Cd.region ?_
  refine Ol.p mvi ?_
  refine Ol.p eqi ?_
  refine Ol.p asb ?_
  refine Ol.nil ?_
  refine Cd.cond rfl (fun h => ?_) (fun h14 => ?_)
  · have h : n = 14 := of_decide_eq_true h
    refine Cd.seq ?_
    refine Cd.region ?_
    refine Ol.p (as_ rfl) ?_
    refine Ol.nil ?_
    exact Cd.ret ⟨.string (strB [100, 97]), ret1 rfl rfl, [], .nil, by unfold hasS; simp [h], rfl⟩
  have h14 : ¬ n = 14 := of_decide_eq_false h14
  refine Cd.skip ?_
  refine Cd.seq ?_
  refine Cd.region ?_
  refine Ol.p (as_ rfl) ?_
  refine Ol.nil ?_
  exact Cd.ret ⟨.string (strB []), ret1 rfl rfl, [], .nil, by unfold hasS; simp [h1, h2, h11, h12, h13, h14], rfl⟩
end
section
theorem hasS_len (o : Int) : (hasS o).length < 1000 := by
  rcases hasS_cases o with h | h | h | h | h | h | h <;> rw [h.1] <;> decide
theorem ref03_in_ct {w : World} {l : List UInt8} {c : UInt8} (hl : l.length < 1000) : Ct Tryz.prog 79 #[.string (strB l), .int .u8 c.toNat] w (Is (.bool (l.contains c))) := by
  have hsz := strB_size l
  refine Ct.mk Tryz.func79 rfl rfl ?_
  refine Cd.seq ?_
  refine Cd.region ?_
  refine Ol.p asb ?_
  refine Ol.nil ?_
  refine Cd.seq ?_
  refine Cd.seq ?_
  refine Cd.region ?_
  refine Ol.p asi ?_
  refine Ol.nil ?_
  refine Cd.block ?_   -- 0
  refine Cd.loop (fun m σ L => ∃ k, m = l.length - k ∧ k ≤ l.length ∧ (l.take k).contains c = false ∧ Has σ [(0, .string (strB l)), (1, .int .u8 c.toNat), (5, .int .i64 k)] ∧ [] = L) (n := l.length) ⟨0, rfl, Nat.zero_le _, rfl, ⟨rfl, rfl, rfl, trivial⟩, rfl⟩ ?_
  rintro _ σ L ⟨k, rfl, hk, hno, hs, rfl⟩
  refine Cd.has hs ?_
  clear hs
  refine Cd.seq ?_
  refine Cd.seq ?_
  refine Cd.region ?_
  refine Ol.p mvi ?_
  refine Ol.p (mv rfl) ?_
  refine Ol.p (lnS Tryz.underlying9) ?_
  refine Ol.p lsi ?_
  refine Ol.nil ?_
  refine Cd.cond rfl (fun h => ?_) (fun h => ?_)   -- $9
  · have hlt : k < (strB l).size := by
      have h : decide ((k : Int) < ((strB l).size : Int)) = true := h
      have := of_decide_eq_true h
      omega
    have hlt2 : k < l.length := by omega
    refine Cd.skip ?_
    refine Cd.seq ?_
    refine Cd.block ?_   -- 1
    refine Cd.seq ?_
    refine Cd.region ?_
    refine Ol.p (mv rfl) ?_
    refine Ol.p mvi ?_
    refine Ol.p (ixS Tryz.underlying9 hlt) ?_
    refine Ol.p mvi ?_
    refine Ol.p eqi ?_
    refine Ol.nil ?_
    have hg : (strB l)[k]'hlt = l[k] := rfl
    refine Cd.cond rfl (fun h2 => ?_) (fun h2 => ?_)   -- $16
    · have h2 : decide ((((strB l)[k]'hlt).toNat : Int) = (c.toNat : Int)) = true := h2
      have h2 := of_decide_eq_true h2
      rw [hg] at h2
      have e : l[k] = c := UInt8.toNat_inj.1 (by omega)
      refine Cd.seq ?_
      refine Cd.region ?_
      refine Ol.p asb ?_
      refine Ol.nil ?_
      exact Cd.ret ⟨.bool true, ret1 rfl rfl, [], .nil, by rw [List.contains_iff_mem.2 (e ▸ List.getElem_mem hlt2)], rfl⟩
    have h2 : decide ((((strB l)[k]'hlt).toNat : Int) = (c.toNat : Int)) = false := h2
    have h2 := of_decide_eq_false h2
    rw [hg] at h2
    have e : ¬ l[k] = c := fun e => h2 (by rw [e])
    refine Cd.skip ?_
    refine Cd.region ?_
    refine Ol.p mvi ?_
    refine Ol.p addi ?_
    refine Ol.p asi ?_
    refine Ol.nil ?_
    refine ⟨l.length - (k + 1), by omega, k + 1, rfl, by omega, ?_, ⟨rfl, rfl, rfl, trivial⟩, rfl⟩
    rw [take_snoc_ (List.getElem?_eq_getElem hlt2)]
    have hno' : c ∉ l.take k := fun hm => by rw [List.contains_iff_mem.2 hm] at hno; cases hno
    cases hc : (l.take k ++ [l[k]]).contains c with
    | false => rfl
    | true =>
      have := List.contains_iff_mem.1 hc
      rcases List.mem_append.1 this with h | h
      · exact absurd h hno'
      · exact absurd (List.mem_singleton.1 h).symm e
  have hke : k = l.length := by
    have h : decide ((k : Int) < ((strB l).size : Int)) = false := h
    have := of_decide_eq_false h
    omega
  rw [hke, List.take_length] at hno
  refine Cd.exit (id := 0) ?_
  refine Cd.seq ?_
  refine Cd.region ?_
  refine Ol.p asb ?_
  refine Ol.nil ?_
  exact Cd.ret ⟨.bool false, ret1 rfl rfl, [], .nil, by rw [hno], rfl⟩
end
section
theorem ref03_part_ct {w : World} {l : List UInt8} {c : UInt8} {n : Int} (hl : l.length < 1000) : Ct Tryz.prog 77 #[.string (strB l), .int .u8 c.toNat, .int .i64 n] w (Is (.bool (partB l c n))) := by
  refine Ct.mk Tryz.func77 rfl rfl ?_
  refine Cd.seq ?_
  refine Cd.region ?_
  refine Ol.p asb ?_
  refine Ol.nil ?_
  refine Cd.seq ?_
  refine Cd.seq ?_
  refine Cd.region ?_
  refine Ol.p (mv rfl) ?_
  refine Ol.p mvi ?_
  refine Ol.s (cl (v := .bool (l.contains c)) en_ref03_in (fun M w' hh => ref03_in_ct hl)) ?_
  refine Ol.nil ?_
  refine Cd.cond rfl (fun h => ?_) (fun h => ?_)   -- $9
  · refine Cd.seq ?_
    refine Cd.region ?_
    refine Ol.p mvi ?_
    refine Ol.s (cl en_ref03_Var (fun M w' hh => ref03_Var_ct)) ?_
    refine Ol.p asb ?_
    refine Ol.nil ?_
    exact Cd.ret ⟨.bool _, ret1 rfl rfl, [], .nil, by unfold partB; rw [h]; rfl, rfl⟩
  refine Cd.skip ?_
  refine Cd.seq ?_
  refine Cd.region ?_
  refine Ol.p mvi ?_
  refine Ol.p eqi ?_
  refine Ol.p asb ?_
  refine Ol.nil ?_
  exact Cd.ret ⟨.bool _, ret1 rfl rfl, [], .nil, by unfold partB; rw [h]; rfl, rfl⟩
end
section
theorem a2_get (a b : Int) : ∀ (j : Nat) (u : Value), [Value.int .i64 a, .int .i64 b][j]? = some u → (j = 0 ∧ u = .int .i64 a) ∨ (j = 1 ∧ u = .int .i64 b) := fun j u hu => by
  match j, hu with
  | 0, hu => cases hu; exact .inl ⟨rfl, rfl⟩
  | 1, hu => cases hu; exact .inr ⟨rfl, rfl⟩
  | j + 2, hu => simp at hu
theorem tell_a2 {a b c d : Int} : ∀ (i : Nat) (u v : Value), #[Value.int .i64 a, .int .i64 b][i]? = some u → #[Value.int .i64 c, .int .i64 d][i]? = some v → Tell (.int .i64) u v := fun i u v hu hv => by
  match i, hu, hv with
  | 0, hu, hv => cases hu; cases hv; exact Tell.int
  | 1, hu, hv => cases hu; cases hv; exact Tell.int
  | i + 2, hu, _ => simp at hu
theorem tm_a2 (t : Tm) : ∀ (j : Nat) (u : Value), #[Value.int .i64 t.t0, .int .i64 t.t1].toList[j]? = some u → t.cells.toArray[0 + 2 + j]? = some u := fun j u hu => by
  rcases a2_get _ _ j u hu with ⟨rfl, rfl⟩ | ⟨rfl, rfl⟩ <;> rfl
set_option maxHeartbeats 1000000 in
theorem ref03_IsTerm_ct {w : World} {t : Tm} : Ct Tryz.prog 36 #[t.val] w (Is (.bool (isTerm t))) := by
  refine Ct.mk Tryz.func36 rfl rfl ?_
  refine Cd.seq ?_
  refine Cd.region ?_
  refine Ol.x bxg ?_
  rintro _ _ ⟨g1, rfl, rfl⟩
  refine Ol.p asb ?_
  refine Ol.nil ?_
  refine Cd.seq ?_
  refine Cd.seq ?_
  refine Cd.region ?_
  refine Ol.p (fdl fd_api_Term_0) ?_
  refine Ol.p (ld (v := .int .i64 t.kind) one_api_TermKind (Rd.blk (i := 0) rfl rfl)) ?_
  refine Ol.nil ?_
  refine Cd.block ?_   -- 0
  refine Cd.seq ?_
  refine Cd.region ?_
  refine Ol.p eqi ?_
  refine Ol.p asb ?_
  refine Ol.nil ?_
  refine Cd.cond rfl (fun h => ?_) (fun h1 => ?_)   -- $5
  · have h : t.kind = 1 := of_decide_eq_true h
    have e : isTerm t = (decide (t.a = 0) && decide (t.t1 = 0)) := by unfold isTerm noneB; simp [h]
    refine Cd.seq ?_
    cases q0 : decide (t.a = 0) with
    | true =>
      refine Cd.region ?_
      refine Ol.p (fdl fd_api_Term_1) ?_
      refine Ol.p (ld (v := .int .i64 t.a) one_int (Rd.blk (i := 0) rfl rfl)) ?_
      refine Ol.p eqi ?_
      refine Ol.p mvb ?_
      refine Ol.gp q0 (fdl fd_api_Term_2) ?_
      refine Ol.gp q0 (ixl (ix := 1) ar_A2_int) ?_
      refine Ol.gp q0 (ld (v := .int .i64 t.t1) one_int (Rd.blk (i := 0) rfl rfl)) ?_
      refine Ol.gp q0 eqi ?_
      refine Ol.p (pkTb q0) ?_
      refine Ol.p asb ?_
      refine Ol.nil ?_
      refine Cd.ret ⟨.bool _, ret1 rfl rfl, [], Keep.nil, congrArg Value.bool ?_, rfl⟩
      rw [e, q0]; try rfl
    | false =>
      refine Cd.region ?_
      refine Ol.p (fdl fd_api_Term_1) ?_
      refine Ol.p (ld (v := .int .i64 t.a) one_int (Rd.blk (i := 0) rfl rfl)) ?_
      refine Ol.p eqi ?_
      refine Ol.p mvb ?_
      refine Ol.gn q0 ?_
      refine Ol.gn q0 ?_
      refine Ol.gn q0 ?_
      refine Ol.gn q0 ?_
      refine Ol.p (pkFb q0) ?_
      refine Ol.p asb ?_
      refine Ol.nil ?_
      refine Cd.ret ⟨.bool _, ret1 rfl rfl, [], Keep.nil, congrArg Value.bool ?_, rfl⟩
      rw [e, q0]; try rfl
  have h1 : ¬ t.kind = 1 := of_decide_eq_false h1
  refine Cd.seq ?_
  refine Cd.region ?_
  refine Ol.p eqi ?_
  refine Ol.p asb ?_
  refine Ol.nil ?_
  refine Cd.cond rfl (fun h => ?_) (fun h2 => ?_)   -- $16
  · have h : t.kind = 2 := of_decide_eq_true h
    have e : isTerm t = varB t.a := by unfold isTerm; simp [h]
    refine Cd.seq ?_
    refine Cd.region ?_
    refine Ol.p (fdl fd_api_Term_1) ?_
    refine Ol.p (ld (v := .int .i64 t.a) one_int (Rd.blk (i := 0) rfl rfl)) ?_
    refine Ol.s (cl en_ref03_Var (fun M w' hh => ref03_Var_ct)) ?_
    refine Ol.p asb ?_
    refine Ol.nil ?_
    exact Cd.ret ⟨.bool _, ret1 rfl rfl, [], Keep.nil, by rw [e], rfl⟩
  have h2 : ¬ t.kind = 2 := of_decide_eq_false h2
  refine Cd.seq ?_
  refine Cd.region ?_
  refine Ol.p eqi ?_
  refine Ol.p asb ?_
  refine Ol.nil ?_
  refine Cd.cond rfl (fun h => ?_) (fun h3 => ?_)   -- $21
  · have h : t.kind = 3 := of_decide_eq_true h
    have e : isTerm t = ((bif decide (t.a = 0) then true else varB t.a) && decide (t.t0 = 0 ∧ t.t1 = 0)) := by
      unfold isTerm noneB fitsB
      cases h9 : decide (t.a = 0) <;> simp [h]
    refine Cd.seq ?_
    cases qa : decide (t.a = 0) with
    | true =>
      refine Cd.region ?_
      refine Ol.p (fdl fd_api_Term_1) ?_
      refine Ol.p (ld (v := .int .i64 t.a) one_int (Rd.blk (i := 0) rfl rfl)) ?_
      refine Ol.p eqi ?_
      refine Ol.p mvb ?_
      refine Ol.gn qa ?_
      refine Ol.gn qa ?_
      refine Ol.gn qa ?_
      refine Ol.p (pkTb qa) ?_
      refine Ol.p mvb ?_
      refine Ol.gp rfl (fdl fd_api_Term_2) ?_
      refine Ol.gp rfl (ldp (k := 0 + 2) (vs := #[.int .i64 t.t0, .int .i64 t.t1]) ag_A2_int (i := 0) rfl rfl (tm_a2 t)) ?_
      refine Ol.gp rfl (bda (cs := #[.int .i64 0, .int .i64 0]) ar_A2_int zr_A2_int (hf := by kernel_rfl)) ?_
      refine Ol.gp rfl (eqa (r := decide (t.t0 = 0 ∧ t.t1 = 0)) (xs := #[.int .i64 t.t0, .int .i64 t.t1]) (ys := #[.int .i64 0, .int .i64 0]) cm_A2_int rfl rfl tell_a2 (by simp)) ?_
      refine Ol.p (pkTb rfl) ?_
      refine Ol.p asb ?_
      refine Ol.nil ?_
      refine Cd.ret ⟨.bool _, ret1 rfl rfl, [], Keep.nil, congrArg Value.bool ?_, rfl⟩
      rw [e, qa]; rfl
    | false =>
      cases qv : varB t.a with
      | true =>
        refine Cd.region ?_
        refine Ol.p (fdl fd_api_Term_1) ?_
        refine Ol.p (ld (v := .int .i64 t.a) one_int (Rd.blk (i := 0) rfl rfl)) ?_
        refine Ol.p eqi ?_
        refine Ol.p mvb ?_
        refine Ol.gp qa (fdl fd_api_Term_1) ?_
        refine Ol.gp qa (ld (v := .int .i64 t.a) one_int (Rd.blk (i := 0) rfl rfl)) ?_
        refine Ol.gs qa (cl en_ref03_Var (fun M w' hh => ref03_Var_ct)) ?_
        refine Ol.p (pkFb qa) ?_
        refine Ol.p mvb ?_
        refine Ol.gp qv (fdl fd_api_Term_2) ?_
        refine Ol.gp qv (ldp (k := 0 + 2) (vs := #[.int .i64 t.t0, .int .i64 t.t1]) ag_A2_int (i := 0) rfl rfl (tm_a2 t)) ?_
        refine Ol.gp qv (bda (cs := #[.int .i64 0, .int .i64 0]) ar_A2_int zr_A2_int (hf := by kernel_rfl)) ?_
        refine Ol.gp qv (eqa (r := decide (t.t0 = 0 ∧ t.t1 = 0)) (xs := #[.int .i64 t.t0, .int .i64 t.t1]) (ys := #[.int .i64 0, .int .i64 0]) cm_A2_int rfl rfl tell_a2 (by simp)) ?_
        refine Ol.p (pkTb qv) ?_
        refine Ol.p asb ?_
        refine Ol.nil ?_
        refine Cd.ret ⟨.bool _, ret1 rfl rfl, [], Keep.nil, congrArg Value.bool ?_, rfl⟩
        rw [e, qa, qv]; rfl
      | false =>
        refine Cd.region ?_
        refine Ol.p (fdl fd_api_Term_1) ?_
        refine Ol.p (ld (v := .int .i64 t.a) one_int (Rd.blk (i := 0) rfl rfl)) ?_
        refine Ol.p eqi ?_
        refine Ol.p mvb ?_
        refine Ol.gp qa (fdl fd_api_Term_1) ?_
        refine Ol.gp qa (ld (v := .int .i64 t.a) one_int (Rd.blk (i := 0) rfl rfl)) ?_
        refine Ol.gs qa (cl en_ref03_Var (fun M w' hh => ref03_Var_ct)) ?_
        refine Ol.p (pkFb qa) ?_
        refine Ol.p mvb ?_
        refine Ol.gn qv ?_
        refine Ol.gn qv ?_
        refine Ol.gn qv ?_
        refine Ol.gn qv ?_
        refine Ol.p (pkFb qv) ?_
        refine Ol.p asb ?_
        refine Ol.nil ?_
        refine Cd.ret ⟨.bool _, ret1 rfl rfl, [], Keep.nil, congrArg Value.bool ?_, rfl⟩
        rw [e, qa, qv]; rfl
  have h3 : ¬ t.kind = 3 := of_decide_eq_false h3
  refine Cd.seq ?_
  refine Cd.region ?_
  refine Ol.p eqi ?_
  refine Ol.p asb ?_
  refine Ol.nil ?_
  refine Cd.cond rfl (fun h => ?_) (fun h4 => ?_)   -- $37
  · have h : t.kind = 4 := of_decide_eq_true h
    have e : isTerm t = (decide (t.a = 0) && decide (t.t0 = 0 ∧ t.t1 = 0)) := by unfold isTerm noneB; simp [h]
    refine Cd.seq ?_
    cases q0 : decide (t.a = 0) with
    | true =>
      refine Cd.region ?_
      refine Ol.p (fdl fd_api_Term_1) ?_
      refine Ol.p (ld (v := .int .i64 t.a) one_int (Rd.blk (i := 0) rfl rfl)) ?_
      refine Ol.p eqi ?_
      refine Ol.p mvb ?_
      refine Ol.gp q0 (fdl fd_api_Term_2) ?_
      refine Ol.gp q0 (ldp (k := 0 + 2) (vs := #[.int .i64 t.t0, .int .i64 t.t1]) ag_A2_int (i := 0) rfl rfl (tm_a2 t)) ?_
      refine Ol.gp q0 (bda (cs := #[.int .i64 0, .int .i64 0]) ar_A2_int zr_A2_int (hf := by kernel_rfl)) ?_
      refine Ol.gp q0 (eqa (r := decide (t.t0 = 0 ∧ t.t1 = 0)) (xs := #[.int .i64 t.t0, .int .i64 t.t1]) (ys := #[.int .i64 0, .int .i64 0]) cm_A2_int rfl rfl tell_a2 (by simp)) ?_
      refine Ol.p (pkTb q0) ?_
      refine Ol.p asb ?_
      refine Ol.nil ?_
      refine Cd.ret ⟨.bool _, ret1 rfl rfl, [], Keep.nil, congrArg Value.bool ?_, rfl⟩
      rw [e, q0]; try rfl
    | false =>
      refine Cd.region ?_
      refine Ol.p (fdl fd_api_Term_1) ?_
      refine Ol.p (ld (v := .int .i64 t.a) one_int (Rd.blk (i := 0) rfl rfl)) ?_
      refine Ol.p eqi ?_
      refine Ol.p mvb ?_
      refine Ol.gn q0 ?_
      refine Ol.gn q0 ?_
      refine Ol.gn q0 ?_
      refine Ol.gn q0 ?_
      refine Ol.p (pkFb q0) ?_
      refine Ol.p asb ?_
      refine Ol.nil ?_
      refine Cd.ret ⟨.bool _, ret1 rfl rfl, [], Keep.nil, congrArg Value.bool ?_, rfl⟩
      rw [e, q0]; try rfl
  have h4 : ¬ t.kind = 4 := of_decide_eq_false h4
  refine Cd.skip ?_
  refine Cd.seq ?_
  refine Cd.region ?_
  refine Ol.p asb ?_
  refine Ol.nil ?_
  exact Cd.ret ⟨.bool false, ret1 rfl rfl, [], Keep.nil, by unfold isTerm; simp [h1, h2, h3, h4], rfl⟩
theorem ref03_Needs_ct {w : World} {t : Tm} : Ct Tryz.prog 41 #[t.val] w (NewL 3 1 (needsL t).length (ints (needsL t))) := by
  refine Ct.mk Tryz.func41 rfl rfl ?_
  refine Cd.seq ?_
  refine Cd.region ?_
  refine Ol.x bxg ?_
  rintro _ _ ⟨g1, rfl, rfl⟩
  refine Ol.p ass ?_
  refine Ol.nil ?_
  have e : needsL t = bif (bif !isTerm t then true else decide (t.a = 0)) then [] else [t.a] := by
    unfold needsL
    cases isTerm t <;> cases decide (t.a = 0) <;> rfl
  refine Cd.seq ?_
  refine Cd.mid (fun σ' L' => Has σ' [(1, .pointer (some ⟨g1, 0, none⟩)), (10, .bool (bif !isTerm t then true else decide (t.a = 0)))] ∧ [blk g1 (.cells t.cells.toArray 30)] = L') ?_ ?_
  · cases q0 : (!isTerm t) with
    | true =>
      refine Cd.region ?_
      refine Ol.p (ldw (cs := t.cells.toArray) ag_api_Term (i := 0) rfl rfl) ?_
      refine Ol.s (cl en_ref03_IsTerm (fun M w' hh => ref03_IsTerm_ct (t := t))) ?_
      refine Ol.p noti ?_
      refine Ol.p mvb ?_
      refine Ol.gn q0 ?_
      refine Ol.gn q0 ?_
      refine Ol.gn q0 ?_
      refine Ol.p (pkTb q0) ?_
      refine Ol.nil ?_
      exact ⟨⟨rfl, rfl, trivial⟩, rfl⟩
    | false =>
      refine Cd.region ?_
      refine Ol.p (ldw (cs := t.cells.toArray) ag_api_Term (i := 0) rfl rfl) ?_
      refine Ol.s (cl en_ref03_IsTerm (fun M w' hh => ref03_IsTerm_ct (t := t))) ?_
      refine Ol.p noti ?_
      refine Ol.p mvb ?_
      refine Ol.gp q0 (fdl fd_api_Term_1) ?_
      refine Ol.gp q0 (ld (v := .int .i64 t.a) one_int (Rd.blk (i := 0) rfl rfl)) ?_
      refine Ol.gp q0 eqi ?_
      refine Ol.p (pkFb q0) ?_
      refine Ol.nil ?_
      exact ⟨⟨rfl, rfl, trivial⟩, rfl⟩
  rintro σ' _ ⟨hs', rfl⟩
  refine Cd.has hs' ?_
  clear hs'
  refine Cd.cond rfl (fun h => ?_) (fun h => ?_)   -- $10
  · rw [h] at e
    rw [e]
    refine Cd.seq ?_
    refine Cd.region ?_
    refine Ol.p ass ?_
    refine Ol.nil ?_
    refine Cd.nr 3 1 ?_
    exact Cd.ret ⟨.slice none 0 0, ret1 rfl rfl, _, .sub (.cons_cons _ (.cons _ .slnil)), none, 0, rfl, rfl⟩
  rw [h] at e
  rw [e]
  refine Cd.skip ?_
  refine Cd.seq ?_
  refine Cd.region ?_
  refine Ol.p (fdl fd_api_Term_1) ?_
  refine Ol.p (ld (v := .int .i64 t.a) one_int (Rd.blk (i := 0) rfl rfl)) ?_
  refine Ol.x (bsv [.int .i64 t.a] sl_L_int zr_int (by simp [Value.cells])) ?_
  rintro _ _ ⟨g13, rfl, rfl⟩
  refine Ol.p ass ?_
  refine Ol.nil ?_
  exact Cd.ret ⟨.slice _ _ _, ret1 rfl rfl, _, .sub (.cons_cons _ (.cons _ .slnil)), _, _, rfl, rfl⟩
theorem ref03_To_ct {w : World} {t : Tm} : Ct Tryz.prog 42 #[t.val] w (NewL 3 1 (toL t).length (ints (toL t))) := by
  refine Ct.mk Tryz.func42 rfl rfl ?_
  refine Cd.seq ?_
  refine Cd.region ?_
  refine Ol.x bxg ?_
  rintro _ _ ⟨g1, rfl, rfl⟩
  refine Ol.p ass ?_
  refine Ol.nil ?_
  refine Cd.seq ?_
  refine Cd.seq ?_
  refine Cd.region ?_
  refine Ol.p (ldw (cs := t.cells.toArray) ag_api_Term (i := 0) rfl rfl) ?_
  refine Ol.s (cl en_ref03_IsTerm (fun M w' hh => ref03_IsTerm_ct (t := t))) ?_
  refine Ol.p noti ?_
  refine Ol.nil ?_
  refine Cd.cond rfl (fun h => ?_) (fun h => ?_)   -- $5
  · have h0 : isTerm t = false := by simpa using h
    have e : toL t = [] := by unfold toL; rw [h0]; rfl
    rw [e]
    refine Cd.seq ?_
    refine Cd.region ?_
    refine Ol.p ass ?_
    refine Ol.nil ?_
    refine Cd.nr 3 1 ?_
    exact Cd.ret ⟨.slice none 0 0, ret1 rfl rfl, _, .sub (.cons_cons _ (.cons _ .slnil)), none, 0, rfl, rfl⟩
  have h0 : isTerm t = true := by simpa using h
  refine Cd.skip ?_
  refine Cd.seq ?_
  refine Cd.seq ?_
  refine Cd.region ?_
  refine Ol.p (fdl fd_api_Term_0) ?_
  refine Ol.p (ld (v := .int .i64 t.kind) one_api_TermKind (Rd.blk (i := 0) rfl rfl)) ?_
  refine Ol.nil ?_
  refine Cd.block ?_   -- 0
  refine Cd.seq ?_
  refine Cd.region ?_
  refine Ol.p eqi ?_
  refine Ol.p asb ?_
  refine Ol.nil ?_
  refine Cd.cond rfl (fun h1 => ?_) (fun h1 => ?_)   -- $8
  · have e : toL t = [t.t0] := by unfold toL; rw [h0, h1]; rfl
    rw [e]
    refine Cd.seq ?_
    refine Cd.region ?_
    refine Ol.p (fdl fd_api_Term_2) ?_
    refine Ol.p (ixl (ix := 0) ar_A2_int) ?_
    refine Ol.p (ld (v := .int .i64 t.t0) one_int (Rd.blk (i := 0) rfl rfl)) ?_
    refine Ol.x (bsv [.int .i64 t.t0] sl_L_int zr_int (by simp [Value.cells])) ?_
    rintro _ _ ⟨g13, rfl, rfl⟩
    refine Ol.p ass ?_
    refine Ol.nil ?_
    exact Cd.ret ⟨.slice _ _ _, ret1 rfl rfl, _, .sub (.cons_cons _ (.cons _ .slnil)), _, _, rfl, rfl⟩
  refine Cd.seq ?_
  refine Cd.region ?_
  refine Ol.p eqi ?_
  refine Ol.p asb ?_
  refine Ol.nil ?_
  refine Cd.cond rfl (fun h2 => ?_) (fun h2 => ?_)   -- $14
  · have e : toL t = [t.t0, t.t1] := by unfold toL; rw [h0, h1, h2]; rfl
    rw [e]
    refine Cd.seq ?_
    refine Cd.region ?_
    refine Ol.p (fdl fd_api_Term_2) ?_
    refine Ol.p (ixl (ix := 0) ar_A2_int) ?_
    refine Ol.p (ld (v := .int .i64 t.t0) one_int (Rd.blk (i := 0) rfl rfl)) ?_
    refine Ol.p (fdl fd_api_Term_2) ?_
    refine Ol.p (ixl (ix := 1) ar_A2_int) ?_
    refine Ol.p (ld (v := .int .i64 t.t1) one_int (Rd.blk (i := 0) rfl rfl)) ?_
    refine Ol.x (bsv [.int .i64 t.t0, .int .i64 t.t1] sl_L_int zr_int (by simp [Value.cells])) ?_
    rintro _ _ ⟨g13, rfl, rfl⟩
    refine Ol.p ass ?_
    refine Ol.nil ?_
    exact Cd.ret ⟨.slice _ _ _, ret1 rfl rfl, _, .sub (.cons_cons _ (.cons _ .slnil)), _, _, rfl, rfl⟩
  have e : toL t = [] := by unfold toL; rw [h0, h1, h2]; rfl
  rw [e]
  refine Cd.skip ?_
  refine Cd.seq ?_
  refine Cd.region ?_
  refine Ol.p ass ?_
  refine Ol.nil ?_
  refine Cd.nr 3 1 ?_
  exact Cd.ret ⟨.slice none 0 0, ret1 rfl rfl, _, .sub (.cons_cons _ (.cons _ .slnil)), none, 0, rfl, rfl⟩
end
end Go.Proofs.YtjenaenakopicaaGreat

/- The document's answer of layer 03: instructions, walked. -/
namespace Go.Proofs.YtjenaenakopicaaGreat
set_option linter.unusedVariables false
set_option linter.unusedSimpArgs false
open Go Go.RowKit
set_option maxRecDepth 100000

section
def refB2 (i : RIns) : Bool := ((strB (hasS i.op)).toList == (strB []).toList) || ((!decide (i.many = 0)) || ((!partB (hasS i.op) 97 i.a) || (!partB (hasS i.op) 98 i.b)))
def refDst (i : RIns) : Bool := bif decide (i.dst = 0) then true else varB i.dst
def refCall (i : RIns) : Bool := decide ((i.args.length : Int) ≤ 8) && (decide (0 ≤ i.callee) && (decide (i.callee ≤ 99) && (refDst i && decide (i.imm = 0))))
def refImm (i : RIns) : Bool := bif decide (i.imm = 0) then true else (bif (hasS i.op).contains 105 then (bif decide (-1099511627776 ≤ i.imm) then decide (i.imm ≤ 1099511627776) else false) else false)
def refRest (i : RIns) : Bool := partB (hasS i.op) 100 i.dst && (refImm i && (decide (i.callee = 0) && decide ((i.args.length : Int) = 0)))
theorem isIns_ref (i : RIns) : isIns i = bif refB2 i then false else bif ((strB (hasS i.op)).toList == (strB [99]).toList) then (i.args.all varB && refCall i) else refRest i := by
  have hdst : ∀ n : Int, fitsB (!decide (n = 0)) n = bif decide (n = 0) then true else varB n := fun n => by
    unfold fitsB
    cases h : decide (n = 0) <;> simp [h]
  have hlen : decide ((i.args.length : Int) ≤ 8) = decide (i.args.length ≤ 8) := by rw [decide_eq_decide]; omega
  have hlen0 : decide ((i.args.length : Int) = 0) = decide (i.args.length = 0) := by rw [decide_eq_decide]; omega
  have himm : (decide (-1099511627776 ≤ i.imm)) = !decide (i.imm < -1099511627776) := by
    cases h : decide (i.imm < -1099511627776)
    · have := of_decide_eq_false h; exact decide_eq_true (by omega)
    · have := of_decide_eq_true h; exact decide_eq_false (by omega)
  have himm2 : (decide (i.imm ≤ 1099511627776)) = !decide (1099511627776 < i.imm) := by
    cases h : decide (1099511627776 < i.imm)
    · have := of_decide_eq_false h; exact decide_eq_true (by omega)
    · have := of_decide_eq_true h; exact decide_eq_false (by omega)
  have hz : ∀ h : decide (i.imm = 0) = true, decide (i.imm < -1099511627776) = false ∧ decide (1099511627776 < i.imm) = false := fun h => by
    have := of_decide_eq_true h
    exact ⟨decide_eq_false (by omega), decide_eq_false (by omega)⟩
  unfold isIns refB2 refRest refImm refCall refDst partB noneB
  rw [strB_list, strB_list, strB_list, hdst, hlen, hlen0, himm, himm2]
  generalize hA : i.args.all varB = aa
  generalize hM : decide (i.many = 0) = mm
  generalize hL : decide (i.args.length ≤ 8) = ll
  generalize hL0 : decide (i.args.length = 0) = l0
  generalize hC0 : decide (0 ≤ i.callee) = c0
  generalize hC9 : decide (i.callee ≤ 99) = c9
  generalize hCz : decide (i.callee = 0) = cz
  generalize hD : decide (i.dst = 0) = dd
  generalize hDv : varB i.dst = dv
  generalize hAz : decide (i.a = 0) = az
  generalize hAv : varB i.a = av
  generalize hBz : decide (i.b = 0) = bz
  generalize hBv : varB i.b = bv
  generalize hI1 : decide (i.imm < -1099511627776) = i1 at hz ⊢
  generalize hI2 : decide (1099511627776 < i.imm) = i2 at hz ⊢
  generalize hIz : decide (i.imm = 0) = iz at hz ⊢
  have hz' : iz = true → i1 = false ∧ i2 = false := hz
  clear hz
  rcases hasS_cases i.op with ⟨h1, h2, _⟩ | ⟨h1, h2, _⟩ | ⟨h1, h2, _⟩ | ⟨h1, h2, _⟩ | ⟨h1, h2, _⟩ | ⟨h1, h2, _⟩ | ⟨h1, h2, _⟩
  all_goals
    rw [h1]
    simp only [h2, fitsB, List.all_cons, List.all_nil, hAz, hAv, hBz, hBv, hD, hDv, hIz]
    cases iz
    all_goals
      first
        | (obtain ⟨e1, e2⟩ := hz' rfl; subst e1; subst e2)
        | skip
    all_goals (cases mm <;> (try cases i1) <;> (try cases i2) <;> simp [Bool.and_assoc, Bool.and_comm, Bool.and_left_comm])
end
end Go.Proofs.YtjenaenakopicaaGreat

/- The document's answer of layer 03: instructions, what they read, functions' shape, walked. -/
namespace Go.Proofs.YtjenaenakopicaaGreat
set_option linter.unusedVariables false
set_option linter.unusedSimpArgs false
open Go Go.RowKit
set_option maxRecDepth 100000

section
set_option maxHeartbeats 4000000 in
theorem ref03_IsIns_ct {w : World} {i : RIns} (hia : Reads w w.heap.size 1 i.aA i.args.length (ints i.args)) (hal : i.args.length < 2 ^ 60) : Ct Tryz.prog 34 #[i.val] w (Is (.bool (isIns i))) := by
  have hE := isIns_ref i
  refine Ct.mk Tryz.func34 rfl rfl ?_
  refine Cd.seq ?_
  refine Cd.region ?_
  refine Ol.x bxg ?_
  rintro _ _ ⟨g1, rfl, rfl⟩
  refine Ol.p asb ?_
  refine Ol.nil ?_
  refine Cd.seq ?_
  refine Cd.region ?_
  refine Ol.p (fdl fd_api_Ins_0) ?_
  refine Ol.p (ld (v := .int .i64 i.op) one_api_Op (Rd.blk (i := 0) rfl rfl)) ?_
  refine Ol.s (cl (v := .string (strB (hasS i.op))) en_ref03_has (fun M w' hh => ref03_has_ct)) ?_
  refine Ol.p (as_ rfl) ?_
  refine Ol.nil ?_
  refine Cd.seq ?_
  refine Cd.mid (fun σ' L' => Has σ' [(1, .pointer (some ⟨g1, 0, none⟩)), (3, .string (strB (hasS i.op))), (29, .bool (refB2 i))] ∧ [blk g1 (.cells i.cells.toArray 25)] = L') ?_ ?_
  · have e : refB2 i = (((strB (hasS i.op)).toList == (strB []).toList) || ((!decide (i.many = 0)) || ((!partB (hasS i.op) 97 i.a) || (!partB (hasS i.op) 98 i.b)))) := rfl
    cases q0 : ((strB (hasS i.op)).toList == (strB []).toList) with
    | false =>
      cases q1 : (!decide (i.many = 0)) with
      | false =>
        cases q2 : (!partB (hasS i.op) 97 i.a) with
        | false =>
          refine Cd.region ?_
          refine Ol.p (mv rfl) ?_
          refine Ol.p (eqS (a := strB (hasS i.op)) (b := strB [])) ?_
          refine Ol.p mvb ?_
          refine Ol.gp q0 (fdl fd_api_Ins_7) ?_
          refine Ol.gp q0 (ld (v := .int .i64 i.many) one_int (Rd.blk (i := 0) rfl rfl)) ?_
          refine Ol.gp q0 nei ?_
          refine Ol.p (pkFb q0) ?_
          refine Ol.p mvb ?_
          refine Ol.gp q1 (mv rfl) ?_
          refine Ol.gp q1 (fdl fd_api_Ins_2) ?_
          refine Ol.gp q1 (ld (v := .int .i64 i.a) one_int (Rd.blk (i := 0) rfl rfl)) ?_
          refine Ol.gs q1 (cl (v := .bool (partB (hasS i.op) 97 i.a)) en_ref03_part (fun M w' hh => ref03_part_ct (hasS_len _))) ?_
          refine Ol.gp q1 noti ?_
          refine Ol.p (pkFb q1) ?_
          refine Ol.p mvb ?_
          refine Ol.gp q2 (mv rfl) ?_
          refine Ol.gp q2 (fdl fd_api_Ins_3) ?_
          refine Ol.gp q2 (ld (v := .int .i64 i.b) one_int (Rd.blk (i := 0) rfl rfl)) ?_
          refine Ol.gs q2 (cl (v := .bool (partB (hasS i.op) 98 i.b)) en_ref03_part (fun M w' hh => ref03_part_ct (hasS_len _))) ?_
          refine Ol.gp q2 noti ?_
          refine Ol.p (pkFb q2) ?_
          refine Ol.nil ?_
          exact ⟨⟨rfl, rfl, congrArg Value.bool (by rw [e, q0, q1, q2]; try rfl), trivial⟩, rfl⟩
        | true =>
          refine Cd.region ?_
          refine Ol.p (mv rfl) ?_
          refine Ol.p (eqS (a := strB (hasS i.op)) (b := strB [])) ?_
          refine Ol.p mvb ?_
          refine Ol.gp q0 (fdl fd_api_Ins_7) ?_
          refine Ol.gp q0 (ld (v := .int .i64 i.many) one_int (Rd.blk (i := 0) rfl rfl)) ?_
          refine Ol.gp q0 nei ?_
          refine Ol.p (pkFb q0) ?_
          refine Ol.p mvb ?_
          refine Ol.gp q1 (mv rfl) ?_
          refine Ol.gp q1 (fdl fd_api_Ins_2) ?_
          refine Ol.gp q1 (ld (v := .int .i64 i.a) one_int (Rd.blk (i := 0) rfl rfl)) ?_
          refine Ol.gs q1 (cl (v := .bool (partB (hasS i.op) 97 i.a)) en_ref03_part (fun M w' hh => ref03_part_ct (hasS_len _))) ?_
          refine Ol.gp q1 noti ?_
          refine Ol.p (pkFb q1) ?_
          refine Ol.p mvb ?_
          refine Ol.gn q2 ?_
          refine Ol.gn q2 ?_
          refine Ol.gn q2 ?_
          refine Ol.gn q2 ?_
          refine Ol.gn q2 ?_
          refine Ol.p (pkTb q2) ?_
          refine Ol.nil ?_
          exact ⟨⟨rfl, rfl, congrArg Value.bool (by rw [e, q0, q1, q2]; try rfl), trivial⟩, rfl⟩
      | true =>
        refine Cd.region ?_
        refine Ol.p (mv rfl) ?_
        refine Ol.p (eqS (a := strB (hasS i.op)) (b := strB [])) ?_
        refine Ol.p mvb ?_
        refine Ol.gp q0 (fdl fd_api_Ins_7) ?_
        refine Ol.gp q0 (ld (v := .int .i64 i.many) one_int (Rd.blk (i := 0) rfl rfl)) ?_
        refine Ol.gp q0 nei ?_
        refine Ol.p (pkFb q0) ?_
        refine Ol.p mvb ?_
        refine Ol.gn q1 ?_
        refine Ol.gn q1 ?_
        refine Ol.gn q1 ?_
        refine Ol.gn q1 ?_
        refine Ol.gn q1 ?_
        refine Ol.p (pkTb q1) ?_
        refine Ol.p mvb ?_
        refine Ol.gn rfl ?_
        refine Ol.gn rfl ?_
        refine Ol.gn rfl ?_
        refine Ol.gn rfl ?_
        refine Ol.gn rfl ?_
        refine Ol.p (pkTb rfl) ?_
        refine Ol.nil ?_
        exact ⟨⟨rfl, rfl, congrArg Value.bool (by rw [e, q0, q1]; try rfl), trivial⟩, rfl⟩
    | true =>
      refine Cd.region ?_
      refine Ol.p (mv rfl) ?_
      refine Ol.p (eqS (a := strB (hasS i.op)) (b := strB [])) ?_
      refine Ol.p mvb ?_
      refine Ol.gn q0 ?_
      refine Ol.gn q0 ?_
      refine Ol.gn q0 ?_
      refine Ol.p (pkTb q0) ?_
      refine Ol.p mvb ?_
      refine Ol.gn rfl ?_
      refine Ol.gn rfl ?_
      refine Ol.gn rfl ?_
      refine Ol.gn rfl ?_
      refine Ol.gn rfl ?_
      refine Ol.p (pkTb rfl) ?_
      refine Ol.p mvb ?_
      refine Ol.gn rfl ?_
      refine Ol.gn rfl ?_
      refine Ol.gn rfl ?_
      refine Ol.gn rfl ?_
      refine Ol.gn rfl ?_
      refine Ol.p (pkTb rfl) ?_
      refine Ol.nil ?_
      exact ⟨⟨rfl, rfl, congrArg Value.bool (by rw [e, q0]; try rfl), trivial⟩, rfl⟩
  rintro σ' _ ⟨hs', rfl⟩
  refine Cd.has hs' ?_
  clear hs'
  refine Cd.cond rfl (fun h => ?_) (fun hB => ?_)   -- $29
  · refine Cd.seq ?_
    refine Cd.region ?_
    refine Ol.p asb ?_
    refine Ol.nil ?_
    exact Cd.ret ⟨.bool false, ret1 rfl rfl, [], Keep.nil, by rw [hE, h]; rfl, rfl⟩
  rw [hB, cond_false] at hE
  refine Cd.skip ?_
  refine Cd.seq ?_
  refine Cd.seq ?_
  refine Cd.region ?_
  refine Ol.p (mv rfl) ?_
  refine Ol.p (eqS (a := strB (hasS i.op)) (b := strB [99])) ?_
  refine Ol.nil ?_
  refine Cd.cond rfl (fun hc => ?_) (fun hc => ?_)   -- $31
  · rw [hc, cond_true] at hE
    refine Cd.seq ?_
    refine Cd.seq ?_
    refine Cd.region ?_
    refine Ol.p asi ?_
    refine Ol.nil ?_
    refine Cd.block ?_   -- 0
    refine Cd.loop (fun m σ L => ∃ k, m = i.args.length - k ∧ k ≤ i.args.length ∧ (i.args.take k).all varB = true ∧ Has σ [(1, .pointer (some ⟨g1, 0, none⟩)), (4, .int .i64 k)] ∧ [blk g1 (.cells i.cells.toArray 25)] = L) (n := i.args.length) ⟨0, rfl, Nat.zero_le _, rfl, ⟨rfl, rfl, trivial⟩, rfl⟩ ?_
    rintro _ σ L ⟨k, rfl, hk, hall, hs, rfl⟩
    refine Cd.has hs ?_
    clear hs
    refine Cd.seq ?_
    refine Cd.seq ?_
    refine Cd.region ?_
    refine Ol.p mvi ?_
    refine Ol.p (fdl fd_api_Ins_6) ?_
    refine Ol.p (ld (v := .slice i.aA i.args.length i.aC) one_L_int (Rd.blk (i := 0) rfl rfl)) ?_
    refine Ol.p (lens sl_L_int) ?_
    refine Ol.p lsi ?_
    refine Ol.nil ?_
    refine Cd.cond rfl (fun h => ?_) (fun h => ?_)   -- $36
    · have hlt : k < i.args.length := by
        have h : decide ((k : Int) < (i.args.length : Int)) = true := h
        have := of_decide_eq_true h
        omega
      obtain ⟨n, hn⟩ : ∃ n, i.args[k]? = some n := ⟨_, List.getElem?_eq_getElem hlt⟩
      refine Cd.skip ?_
      refine Cd.seq ?_
      refine Cd.block ?_   -- 1
      refine Cd.seq ?_
      refine Cd.region ?_
      refine Ol.p (fdl fd_api_Ins_6) ?_
      refine Ol.p (ld (v := .slice i.aA i.args.length i.aC) one_L_int (Rd.blk (i := 0) rfl rfl)) ?_
      refine Ol.p mvi ?_
      refine Ol.p (ixn (ix := k) sl_L_int (Som.slc hia (by omega))) ?_
      refine Ol.p (ld (v := .int .i64 n) one_int (Rd.slc hia (show (ints i.args)[k * 1]? = some (.int .i64 n) from by simp [ints, hn]))) ?_
      refine Ol.s (cl en_ref03_Var (fun M w' hh => ref03_Var_ct)) ?_
      refine Ol.p noti ?_
      refine Ol.nil ?_
      refine Cd.cond rfl (fun h2 => ?_) (fun h2 => ?_)   -- $45
      · have hno : varB n = false := by simpa using h2
        have e : i.args.all varB = false := by
          rw [List.all_eq_false]
          exact ⟨n, List.mem_of_getElem? hn, by rw [hno]; exact fun h => by cases h⟩
        refine Cd.seq ?_
        refine Cd.region ?_
        refine Ol.p asb ?_
        refine Ol.nil ?_
        exact Cd.ret ⟨.bool false, ret1 rfl rfl, [], Keep.nil, by rw [hE, e]; rfl, rfl⟩
      have hyes : varB n = true := by simpa using h2
      refine Cd.skip ?_
      refine Cd.region ?_
      refine Ol.p mvi ?_
      refine Ol.p addi ?_
      refine Ol.p asi ?_
      refine Ol.nil ?_
      refine ⟨i.args.length - (k + 1), by omega, k + 1, rfl, by omega, ?_, ⟨rfl, rfl, trivial⟩, rfl⟩
      rw [take_snoc_ hn, List.all_append, hall]
      simp [hyes]
    have hke : k = i.args.length := by
      have h : decide ((k : Int) < (i.args.length : Int)) = false := h
      have := of_decide_eq_false h
      omega
    rw [hke, List.take_length] at hall
    rw [hall, Bool.true_and] at hE
    refine Cd.exit (id := 0) ?_
    refine Cd.seq ?_
    have e : refCall i = (decide ((i.args.length : Int) ≤ 8) && (decide (0 ≤ i.callee) && (decide (i.callee ≤ 99) && ((bif decide (i.dst = 0) then true else varB i.dst) && decide (i.imm = 0))))) := rfl
    cases q0 : decide ((i.args.length : Int) ≤ 8) with
    | true =>
      cases q1 : decide (0 ≤ i.callee) with
      | true =>
        cases q2 : decide (i.callee ≤ 99) with
        | true =>
          cases q3 : decide (i.dst = 0) with
          | true =>
            refine Cd.region ?_
            refine Ol.p (fdl fd_api_Ins_6) ?_
            refine Ol.p (ld (v := .slice i.aA i.args.length i.aC) one_L_int (Rd.blk (i := 0) rfl rfl)) ?_
            refine Ol.p (lens sl_L_int) ?_
            refine Ol.p lei ?_
            refine Ol.p mvb ?_
            refine Ol.gp q0 (fdl fd_api_Ins_5) ?_
            refine Ol.gp q0 (ld (v := .int .i64 i.callee) one_int (Rd.blk (i := 0) rfl rfl)) ?_
            refine Ol.gp q0 gei ?_
            refine Ol.p (pkTb q0) ?_
            refine Ol.p mvb ?_
            refine Ol.gp q1 (fdl fd_api_Ins_5) ?_
            refine Ol.gp q1 (ld (v := .int .i64 i.callee) one_int (Rd.blk (i := 0) rfl rfl)) ?_
            refine Ol.gp q1 lei ?_
            refine Ol.p (pkTb q1) ?_
            refine Ol.p mvb ?_
            refine Ol.gp q2 (fdl fd_api_Ins_1) ?_
            refine Ol.gp q2 (ld (v := .int .i64 i.dst) one_int (Rd.blk (i := 0) rfl rfl)) ?_
            refine Ol.gp q2 eqi ?_
            refine Ol.gp q2 mvb ?_
            refine Ol.gn q3 ?_
            refine Ol.gn q3 ?_
            refine Ol.gn q3 ?_
            refine Ol.gp q2 (pkTb q3) ?_
            refine Ol.p (pkTb q2) ?_
            refine Ol.p mvb ?_
            refine Ol.gp rfl (fdl fd_api_Ins_4) ?_
            refine Ol.gp rfl (ld (v := .int .i64 i.imm) one_int (Rd.blk (i := 0) rfl rfl)) ?_
            refine Ol.gp rfl eqi ?_
            refine Ol.p (pkTb rfl) ?_
            refine Ol.p asb ?_
            refine Ol.nil ?_
            refine Cd.ret ⟨.bool _, ret1 rfl rfl, [], Keep.nil, congrArg Value.bool ?_, rfl⟩
            rw [hE, e, q0, q1, q2, q3]; try rfl
          | false =>
            cases q4 : varB i.dst with
            | true =>
              refine Cd.region ?_
              refine Ol.p (fdl fd_api_Ins_6) ?_
              refine Ol.p (ld (v := .slice i.aA i.args.length i.aC) one_L_int (Rd.blk (i := 0) rfl rfl)) ?_
              refine Ol.p (lens sl_L_int) ?_
              refine Ol.p lei ?_
              refine Ol.p mvb ?_
              refine Ol.gp q0 (fdl fd_api_Ins_5) ?_
              refine Ol.gp q0 (ld (v := .int .i64 i.callee) one_int (Rd.blk (i := 0) rfl rfl)) ?_
              refine Ol.gp q0 gei ?_
              refine Ol.p (pkTb q0) ?_
              refine Ol.p mvb ?_
              refine Ol.gp q1 (fdl fd_api_Ins_5) ?_
              refine Ol.gp q1 (ld (v := .int .i64 i.callee) one_int (Rd.blk (i := 0) rfl rfl)) ?_
              refine Ol.gp q1 lei ?_
              refine Ol.p (pkTb q1) ?_
              refine Ol.p mvb ?_
              refine Ol.gp q2 (fdl fd_api_Ins_1) ?_
              refine Ol.gp q2 (ld (v := .int .i64 i.dst) one_int (Rd.blk (i := 0) rfl rfl)) ?_
              refine Ol.gp q2 eqi ?_
              refine Ol.gp q2 mvb ?_
              refine Ol.gp q3 (fdl fd_api_Ins_1) ?_
              refine Ol.gp q3 (ld (v := .int .i64 i.dst) one_int (Rd.blk (i := 0) rfl rfl)) ?_
              refine Ol.gs q3 (cl en_ref03_Var (fun M w' hh => ref03_Var_ct)) ?_
              refine Ol.gp q2 (pkFb q3) ?_
              refine Ol.p (pkTb q2) ?_
              refine Ol.p mvb ?_
              refine Ol.gp q4 (fdl fd_api_Ins_4) ?_
              refine Ol.gp q4 (ld (v := .int .i64 i.imm) one_int (Rd.blk (i := 0) rfl rfl)) ?_
              refine Ol.gp q4 eqi ?_
              refine Ol.p (pkTb q4) ?_
              refine Ol.p asb ?_
              refine Ol.nil ?_
              refine Cd.ret ⟨.bool _, ret1 rfl rfl, [], Keep.nil, congrArg Value.bool ?_, rfl⟩
              rw [hE, e, q0, q1, q2, q3, q4]; try rfl
            | false =>
              refine Cd.region ?_
              refine Ol.p (fdl fd_api_Ins_6) ?_
              refine Ol.p (ld (v := .slice i.aA i.args.length i.aC) one_L_int (Rd.blk (i := 0) rfl rfl)) ?_
              refine Ol.p (lens sl_L_int) ?_
              refine Ol.p lei ?_
              refine Ol.p mvb ?_
              refine Ol.gp q0 (fdl fd_api_Ins_5) ?_
              refine Ol.gp q0 (ld (v := .int .i64 i.callee) one_int (Rd.blk (i := 0) rfl rfl)) ?_
              refine Ol.gp q0 gei ?_
              refine Ol.p (pkTb q0) ?_
              refine Ol.p mvb ?_
              refine Ol.gp q1 (fdl fd_api_Ins_5) ?_
              refine Ol.gp q1 (ld (v := .int .i64 i.callee) one_int (Rd.blk (i := 0) rfl rfl)) ?_
              refine Ol.gp q1 lei ?_
              refine Ol.p (pkTb q1) ?_
              refine Ol.p mvb ?_
              refine Ol.gp q2 (fdl fd_api_Ins_1) ?_
              refine Ol.gp q2 (ld (v := .int .i64 i.dst) one_int (Rd.blk (i := 0) rfl rfl)) ?_
              refine Ol.gp q2 eqi ?_
              refine Ol.gp q2 mvb ?_
              refine Ol.gp q3 (fdl fd_api_Ins_1) ?_
              refine Ol.gp q3 (ld (v := .int .i64 i.dst) one_int (Rd.blk (i := 0) rfl rfl)) ?_
              refine Ol.gs q3 (cl en_ref03_Var (fun M w' hh => ref03_Var_ct)) ?_
              refine Ol.gp q2 (pkFb q3) ?_
              refine Ol.p (pkTb q2) ?_
              refine Ol.p mvb ?_
              refine Ol.gn q4 ?_
              refine Ol.gn q4 ?_
              refine Ol.gn q4 ?_
              refine Ol.p (pkFb q4) ?_
              refine Ol.p asb ?_
              refine Ol.nil ?_
              refine Cd.ret ⟨.bool _, ret1 rfl rfl, [], Keep.nil, congrArg Value.bool ?_, rfl⟩
              rw [hE, e, q0, q1, q2, q3, q4]; try rfl
        | false =>
          refine Cd.region ?_
          refine Ol.p (fdl fd_api_Ins_6) ?_
          refine Ol.p (ld (v := .slice i.aA i.args.length i.aC) one_L_int (Rd.blk (i := 0) rfl rfl)) ?_
          refine Ol.p (lens sl_L_int) ?_
          refine Ol.p lei ?_
          refine Ol.p mvb ?_
          refine Ol.gp q0 (fdl fd_api_Ins_5) ?_
          refine Ol.gp q0 (ld (v := .int .i64 i.callee) one_int (Rd.blk (i := 0) rfl rfl)) ?_
          refine Ol.gp q0 gei ?_
          refine Ol.p (pkTb q0) ?_
          refine Ol.p mvb ?_
          refine Ol.gp q1 (fdl fd_api_Ins_5) ?_
          refine Ol.gp q1 (ld (v := .int .i64 i.callee) one_int (Rd.blk (i := 0) rfl rfl)) ?_
          refine Ol.gp q1 lei ?_
          refine Ol.p (pkTb q1) ?_
          refine Ol.p mvb ?_
          refine Ol.gn q2 ?_
          refine Ol.gn q2 ?_
          refine Ol.gn q2 ?_
          refine Ol.gn q2 ?_
          refine Ol.gu ?_
          refine Ol.gu ?_
          refine Ol.gu ?_
          refine Ol.gn q2 ?_
          refine Ol.p (pkFb q2) ?_
          refine Ol.p mvb ?_
          refine Ol.gn rfl ?_
          refine Ol.gn rfl ?_
          refine Ol.gn rfl ?_
          refine Ol.p (pkFb rfl) ?_
          refine Ol.p asb ?_
          refine Ol.nil ?_
          refine Cd.ret ⟨.bool _, ret1 rfl rfl, [], Keep.nil, congrArg Value.bool ?_, rfl⟩
          rw [hE, e, q0, q1, q2]; try rfl
      | false =>
        refine Cd.region ?_
        refine Ol.p (fdl fd_api_Ins_6) ?_
        refine Ol.p (ld (v := .slice i.aA i.args.length i.aC) one_L_int (Rd.blk (i := 0) rfl rfl)) ?_
        refine Ol.p (lens sl_L_int) ?_
        refine Ol.p lei ?_
        refine Ol.p mvb ?_
        refine Ol.gp q0 (fdl fd_api_Ins_5) ?_
        refine Ol.gp q0 (ld (v := .int .i64 i.callee) one_int (Rd.blk (i := 0) rfl rfl)) ?_
        refine Ol.gp q0 gei ?_
        refine Ol.p (pkTb q0) ?_
        refine Ol.p mvb ?_
        refine Ol.gn q1 ?_
        refine Ol.gn q1 ?_
        refine Ol.gn q1 ?_
        refine Ol.p (pkFb q1) ?_
        refine Ol.p mvb ?_
        refine Ol.gn rfl ?_
        refine Ol.gn rfl ?_
        refine Ol.gn rfl ?_
        refine Ol.gn rfl ?_
        refine Ol.gu ?_
        refine Ol.gu ?_
        refine Ol.gu ?_
        refine Ol.gn rfl ?_
        refine Ol.p (pkFb rfl) ?_
        refine Ol.p mvb ?_
        refine Ol.gn rfl ?_
        refine Ol.gn rfl ?_
        refine Ol.gn rfl ?_
        refine Ol.p (pkFb rfl) ?_
        refine Ol.p asb ?_
        refine Ol.nil ?_
        refine Cd.ret ⟨.bool _, ret1 rfl rfl, [], Keep.nil, congrArg Value.bool ?_, rfl⟩
        rw [hE, e, q0, q1]; try rfl
    | false =>
      refine Cd.region ?_
      refine Ol.p (fdl fd_api_Ins_6) ?_
      refine Ol.p (ld (v := .slice i.aA i.args.length i.aC) one_L_int (Rd.blk (i := 0) rfl rfl)) ?_
      refine Ol.p (lens sl_L_int) ?_
      refine Ol.p lei ?_
      refine Ol.p mvb ?_
      refine Ol.gn q0 ?_
      refine Ol.gn q0 ?_
      refine Ol.gn q0 ?_
      refine Ol.p (pkFb q0) ?_
      refine Ol.p mvb ?_
      refine Ol.gn rfl ?_
      refine Ol.gn rfl ?_
      refine Ol.gn rfl ?_
      refine Ol.p (pkFb rfl) ?_
      refine Ol.p mvb ?_
      refine Ol.gn rfl ?_
      refine Ol.gn rfl ?_
      refine Ol.gn rfl ?_
      refine Ol.gn rfl ?_
      refine Ol.gu ?_
      refine Ol.gu ?_
      refine Ol.gu ?_
      refine Ol.gn rfl ?_
      refine Ol.p (pkFb rfl) ?_
      refine Ol.p mvb ?_
      refine Ol.gn rfl ?_
      refine Ol.gn rfl ?_
      refine Ol.gn rfl ?_
      refine Ol.p (pkFb rfl) ?_
      refine Ol.p asb ?_
      refine Ol.nil ?_
      refine Cd.ret ⟨.bool _, ret1 rfl rfl, [], Keep.nil, congrArg Value.bool ?_, rfl⟩
      rw [hE, e, q0]; try rfl
  rw [hc, cond_false] at hE
  refine Cd.skip ?_
  refine Cd.mid (fun σ' L' => Has σ' [(1, .pointer (some ⟨g1, 0, none⟩)), (3, .string (strB (hasS i.op))), (5, .bool (refImm i))] ∧ [blk g1 (.cells i.cells.toArray 25)] = L') ?_ ?_
  · have e : refImm i = bif decide (i.imm = 0) then true else (bif (hasS i.op).contains 105 then (bif decide (-1099511627776 ≤ i.imm) then decide (i.imm ≤ 1099511627776) else false) else false) := rfl
    cases q0 : decide (i.imm = 0) with
    | true =>
      refine Cd.region ?_
      refine Ol.p (fdl fd_api_Ins_4) ?_
      refine Ol.p (ld (v := .int .i64 i.imm) one_int (Rd.blk (i := 0) rfl rfl)) ?_
      refine Ol.p eqi ?_
      refine Ol.p mvb ?_
      refine Ol.gn q0 ?_
      refine Ol.gn q0 ?_
      refine Ol.gn q0 ?_
      refine Ol.gu ?_
      refine Ol.gu ?_
      refine Ol.gu ?_
      refine Ol.gn q0 ?_
      refine Ol.gn q0 ?_
      refine Ol.gu ?_
      refine Ol.gu ?_
      refine Ol.gu ?_
      refine Ol.gn q0 ?_
      refine Ol.p (pkTb q0) ?_
      refine Ol.p asb ?_
      refine Ol.nil ?_
      exact ⟨⟨rfl, rfl, congrArg Value.bool (by rw [e, q0]; try rfl), trivial⟩, rfl⟩
    | false =>
      cases q1 : (hasS i.op).contains 105 with
      | false =>
        refine Cd.region ?_
        refine Ol.p (fdl fd_api_Ins_4) ?_
        refine Ol.p (ld (v := .int .i64 i.imm) one_int (Rd.blk (i := 0) rfl rfl)) ?_
        refine Ol.p eqi ?_
        refine Ol.p mvb ?_
        refine Ol.gp q0 (mv rfl) ?_
        refine Ol.gs q0 (cl (v := .bool ((hasS i.op).contains 105)) en_ref03_in (fun M w' hh => ref03_in_ct (hasS_len _))) ?_
        refine Ol.gp q0 mvb ?_
        refine Ol.gn q1 ?_
        refine Ol.gn q1 ?_
        refine Ol.gn q1 ?_
        refine Ol.gp q0 (pkFb q1) ?_
        refine Ol.gp q0 mvb ?_
        refine Ol.gn rfl ?_
        refine Ol.gn rfl ?_
        refine Ol.gn rfl ?_
        refine Ol.gp q0 (pkFb rfl) ?_
        refine Ol.p (pkFb q0) ?_
        refine Ol.p asb ?_
        refine Ol.nil ?_
        exact ⟨⟨rfl, rfl, congrArg Value.bool (by rw [e, q0, q1]; try rfl), trivial⟩, rfl⟩
      | true =>
        cases q2 : decide (-1099511627776 ≤ i.imm) with
        | true =>
          refine Cd.region ?_
          refine Ol.p (fdl fd_api_Ins_4) ?_
          refine Ol.p (ld (v := .int .i64 i.imm) one_int (Rd.blk (i := 0) rfl rfl)) ?_
          refine Ol.p eqi ?_
          refine Ol.p mvb ?_
          refine Ol.gp q0 (mv rfl) ?_
          refine Ol.gs q0 (cl (v := .bool ((hasS i.op).contains 105)) en_ref03_in (fun M w' hh => ref03_in_ct (hasS_len _))) ?_
          refine Ol.gp q0 mvb ?_
          refine Ol.gp q1 (fdl fd_api_Ins_4) ?_
          refine Ol.gp q1 (ld (v := .int .i64 i.imm) one_int (Rd.blk (i := 0) rfl rfl)) ?_
          refine Ol.gp q1 gei ?_
          refine Ol.gp q0 (pkTb q1) ?_
          refine Ol.gp q0 mvb ?_
          refine Ol.gp q2 (fdl fd_api_Ins_4) ?_
          refine Ol.gp q2 (ld (v := .int .i64 i.imm) one_int (Rd.blk (i := 0) rfl rfl)) ?_
          refine Ol.gp q2 lei ?_
          refine Ol.gp q0 (pkTb q2) ?_
          refine Ol.p (pkFb q0) ?_
          refine Ol.p asb ?_
          refine Ol.nil ?_
          exact ⟨⟨rfl, rfl, congrArg Value.bool (by rw [e, q0, q1, q2]; try rfl), trivial⟩, rfl⟩
        | false =>
          refine Cd.region ?_
          refine Ol.p (fdl fd_api_Ins_4) ?_
          refine Ol.p (ld (v := .int .i64 i.imm) one_int (Rd.blk (i := 0) rfl rfl)) ?_
          refine Ol.p eqi ?_
          refine Ol.p mvb ?_
          refine Ol.gp q0 (mv rfl) ?_
          refine Ol.gs q0 (cl (v := .bool ((hasS i.op).contains 105)) en_ref03_in (fun M w' hh => ref03_in_ct (hasS_len _))) ?_
          refine Ol.gp q0 mvb ?_
          refine Ol.gp q1 (fdl fd_api_Ins_4) ?_
          refine Ol.gp q1 (ld (v := .int .i64 i.imm) one_int (Rd.blk (i := 0) rfl rfl)) ?_
          refine Ol.gp q1 gei ?_
          refine Ol.gp q0 (pkTb q1) ?_
          refine Ol.gp q0 mvb ?_
          refine Ol.gn q2 ?_
          refine Ol.gn q2 ?_
          refine Ol.gn q2 ?_
          refine Ol.gp q0 (pkFb q2) ?_
          refine Ol.p (pkFb q0) ?_
          refine Ol.p asb ?_
          refine Ol.nil ?_
          exact ⟨⟨rfl, rfl, congrArg Value.bool (by rw [e, q0, q1, q2]; try rfl), trivial⟩, rfl⟩
  rintro σ' _ ⟨hs', rfl⟩
  refine Cd.has hs' ?_
  clear hs'
  have e : refRest i = (partB (hasS i.op) 100 i.dst && (refImm i && (decide (i.callee = 0) && decide ((i.args.length : Int) = 0)))) := rfl
  refine Cd.seq ?_
  cases q0 : partB (hasS i.op) 100 i.dst with
  | true =>
    cases q1 : refImm i with
    | true =>
      cases q2 : decide (i.callee = 0) with
      | true =>
        refine Cd.region ?_
        refine Ol.p (mv rfl) ?_
        refine Ol.p (fdl fd_api_Ins_1) ?_
        refine Ol.p (ld (v := .int .i64 i.dst) one_int (Rd.blk (i := 0) rfl rfl)) ?_
        refine Ol.s (cl (v := .bool (partB (hasS i.op) 100 i.dst)) en_ref03_part (fun M w' hh => ref03_part_ct (hasS_len _))) ?_
        refine Ol.p mvb ?_
        refine Ol.gp q0 mvb ?_
        refine Ol.p (pkTb q0) ?_
        refine Ol.p mvb ?_
        refine Ol.gp rfl (fdl fd_api_Ins_5) ?_
        refine Ol.gp rfl (ld (v := .int .i64 i.callee) one_int (Rd.blk (i := 0) rfl rfl)) ?_
        refine Ol.gp rfl eqi ?_
        refine Ol.p (pkTb rfl) ?_
        refine Ol.p mvb ?_
        refine Ol.gp q2 (fdl fd_api_Ins_6) ?_
        refine Ol.gp q2 (ld (v := .slice i.aA i.args.length i.aC) one_L_int (Rd.blk (i := 0) rfl rfl)) ?_
        refine Ol.gp q2 (lens sl_L_int) ?_
        refine Ol.gp q2 eqi ?_
        refine Ol.p (pkTb q2) ?_
        refine Ol.p asb ?_
        refine Ol.nil ?_
        refine Cd.ret ⟨.bool _, ret1 rfl rfl, [], Keep.nil, congrArg Value.bool ?_, rfl⟩
        rw [hE, e, q0, q1, q2]; try rfl
      | false =>
        refine Cd.region ?_
        refine Ol.p (mv rfl) ?_
        refine Ol.p (fdl fd_api_Ins_1) ?_
        refine Ol.p (ld (v := .int .i64 i.dst) one_int (Rd.blk (i := 0) rfl rfl)) ?_
        refine Ol.s (cl (v := .bool (partB (hasS i.op) 100 i.dst)) en_ref03_part (fun M w' hh => ref03_part_ct (hasS_len _))) ?_
        refine Ol.p mvb ?_
        refine Ol.gp q0 mvb ?_
        refine Ol.p (pkTb q0) ?_
        refine Ol.p mvb ?_
        refine Ol.gp rfl (fdl fd_api_Ins_5) ?_
        refine Ol.gp rfl (ld (v := .int .i64 i.callee) one_int (Rd.blk (i := 0) rfl rfl)) ?_
        refine Ol.gp rfl eqi ?_
        refine Ol.p (pkTb rfl) ?_
        refine Ol.p mvb ?_
        refine Ol.gn q2 ?_
        refine Ol.gn q2 ?_
        refine Ol.gn q2 ?_
        refine Ol.gn q2 ?_
        refine Ol.p (pkFb q2) ?_
        refine Ol.p asb ?_
        refine Ol.nil ?_
        refine Cd.ret ⟨.bool _, ret1 rfl rfl, [], Keep.nil, congrArg Value.bool ?_, rfl⟩
        rw [hE, e, q0, q1, q2]; try rfl
    | false =>
      refine Cd.region ?_
      refine Ol.p (mv rfl) ?_
      refine Ol.p (fdl fd_api_Ins_1) ?_
      refine Ol.p (ld (v := .int .i64 i.dst) one_int (Rd.blk (i := 0) rfl rfl)) ?_
      refine Ol.s (cl (v := .bool (partB (hasS i.op) 100 i.dst)) en_ref03_part (fun M w' hh => ref03_part_ct (hasS_len _))) ?_
      refine Ol.p mvb ?_
      refine Ol.gp q0 mvb ?_
      refine Ol.p (pkTb q0) ?_
      refine Ol.p mvb ?_
      refine Ol.gn rfl ?_
      refine Ol.gn rfl ?_
      refine Ol.gn rfl ?_
      refine Ol.p (pkFb rfl) ?_
      refine Ol.p mvb ?_
      refine Ol.gn rfl ?_
      refine Ol.gn rfl ?_
      refine Ol.gn rfl ?_
      refine Ol.gn rfl ?_
      refine Ol.p (pkFb rfl) ?_
      refine Ol.p asb ?_
      refine Ol.nil ?_
      refine Cd.ret ⟨.bool _, ret1 rfl rfl, [], Keep.nil, congrArg Value.bool ?_, rfl⟩
      rw [hE, e, q0, q1]; try rfl
  | false =>
    refine Cd.region ?_
    refine Ol.p (mv rfl) ?_
    refine Ol.p (fdl fd_api_Ins_1) ?_
    refine Ol.p (ld (v := .int .i64 i.dst) one_int (Rd.blk (i := 0) rfl rfl)) ?_
    refine Ol.s (cl (v := .bool (partB (hasS i.op) 100 i.dst)) en_ref03_part (fun M w' hh => ref03_part_ct (hasS_len _))) ?_
    refine Ol.p mvb ?_
    refine Ol.gn q0 ?_
    refine Ol.p (pkFb q0) ?_
    refine Ol.p mvb ?_
    refine Ol.gn rfl ?_
    refine Ol.gn rfl ?_
    refine Ol.gn rfl ?_
    refine Ol.p (pkFb rfl) ?_
    refine Ol.p mvb ?_
    refine Ol.gn rfl ?_
    refine Ol.gn rfl ?_
    refine Ol.gn rfl ?_
    refine Ol.gn rfl ?_
    refine Ol.p (pkFb rfl) ?_
    refine Ol.p asb ?_
    refine Ol.nil ?_
    refine Cd.ret ⟨.bool _, ret1 rfl rfl, [], Keep.nil, congrArg Value.bool ?_, rfl⟩
    rw [hE, e, q0]; try rfl
theorem readsL_ref {i : RIns} (h : isIns i = true) : readsL i = (bif (hasS i.op).contains 97 then [i.a] else []) ++ ((bif (hasS i.op).contains 98 then [i.b] else []) ++ i.args) := by
  have hE := isIns_ref i
  rw [h] at hE
  cases hB : refB2 i with
  | true => rw [hB] at hE; cases hE
  | false =>
    unfold refB2 at hB
    simp only [Bool.or_eq_false_iff, Bool.not_eq_false'] at hB
    obtain ⟨_, _, ha, hb⟩ := hB
    have key : ∀ (c : UInt8) (n : Int), partB (hasS i.op) c n = true → [n].filter (fun n => !decide (n = 0)) = bif (hasS i.op).contains c then [n] else [] := fun c n hp => by
      unfold partB at hp
      cases hcc : (hasS i.op).contains c with
      | true =>
        rw [hcc, cond_true, varB_iff] at hp
        have : ¬ n = 0 := by omega
        simp [this]
      | false =>
        rw [hcc, cond_false] at hp
        have := of_decide_eq_true hp
        simp [this]
    unfold readsL
    rw [h, cond_true, ← key 97 i.a ha, ← key 98 i.b hb, ← List.append_assoc, ← List.filter_append]
    rfl
set_option maxHeartbeats 1000000 in
theorem ref03_Reads_ct {w : World} {i : RIns} (hia : Reads w w.heap.size 1 i.aA i.args.length (ints i.args)) (hal : i.args.length < 2 ^ 60) : Ct Tryz.prog 38 #[i.val] w (NewL 3 1 (readsL i).length (ints (readsL i))) := by
  refine Ct.mk Tryz.func38 rfl rfl ?_
  refine Cd.seq ?_
  refine Cd.region ?_
  refine Ol.x bxg ?_
  rintro _ _ ⟨g1, rfl, rfl⟩
  refine Ol.p ass ?_
  refine Ol.nil ?_
  refine Cd.seq ?_
  refine Cd.seq ?_
  refine Cd.region ?_
  refine Ol.p (ldw (cs := i.cells.toArray) ag_api_Ins (i := 0) rfl rfl) ?_
  refine Ol.s (cl (v := .bool (isIns i)) en_ref03_IsIns (fun M w' hh => ref03_IsIns_ct (hia.now hh) hal)) ?_
  refine Ol.p noti ?_
  refine Ol.nil ?_
  refine Cd.cond rfl (fun h => ?_) (fun h => ?_)   -- $6
  · have h0 : isIns i = false := by simpa using h
    have e : readsL i = [] := by unfold readsL; rw [h0]; rfl
    rw [e]
    refine Cd.seq ?_
    refine Cd.region ?_
    refine Ol.p ass ?_
    refine Ol.nil ?_
    refine Cd.nr 3 1 ?_
    exact Cd.ret ⟨.slice none 0 0, ret1 rfl rfl, _, .sub (.cons_cons _ (.cons _ .slnil)), none, 0, rfl, rfl⟩
  have h0 : isIns i = true := by simpa using h
  have h8 : i.args.length ≤ 8 := (isIns_parts h0).2.2.2.2
  have hR := readsL_ref h0
  obtain ⟨la, hla⟩ : ∃ la, la = bif (hasS i.op).contains 97 then [i.a] else [] := ⟨_, rfl⟩
  obtain ⟨lb, hlb⟩ : ∃ lb, lb = bif (hasS i.op).contains 98 then [i.b] else [] := ⟨_, rfl⟩
  rw [← hla, ← hlb] at hR
  refine Cd.skip ?_
  refine Cd.seq ?_
  refine Cd.region ?_
  refine Ol.p ass ?_
  refine Ol.nil ?_
  refine Cd.nr 3 1 ?_
  refine Cd.mid (fun σ' L' => ∃ A c, Has σ' [(1, .pointer (some ⟨g1, 0, none⟩)), (3, .slice A la.length c)] ∧ [row (.slice A la.length c) 3 1 la.length (ints la), blk g1 (.cells i.cells.toArray 25)] = L') ?_ ?_
  · refine Cd.seq ?_
    refine Cd.region ?_
    refine Ol.p (fdl fd_api_Ins_0) ?_
    refine Ol.p (ld (v := .int .i64 i.op) one_api_Op (Rd.blk (i := 1) rfl rfl)) ?_
    refine Ol.s (cl (v := .string (strB (hasS i.op))) en_ref03_has (fun M w' hh => ref03_has_ct)) ?_
    refine Ol.s (cl (v := .bool ((hasS i.op).contains 97)) en_ref03_in (fun M w' hh => ref03_in_ct (hasS_len _))) ?_
    refine Ol.nil ?_
    refine Cd.cond rfl (fun h => ?_) (fun h => ?_)   -- $10
    · rw [h, cond_true] at hla
      subst hla
      refine Cd.region ?_
      refine Ol.p mvs ?_
      refine Ol.p (fdl fd_api_Ins_2) ?_
      refine Ol.p (ld (v := .int .i64 i.a) one_int (Rd.blk (i := 1) rfl rfl)) ?_
      refine Ol.x (bsv [.int .i64 i.a] sl_L_int zr_int (by simp [Value.cells])) ?_
      rintro _ _ ⟨g14, rfl, rfl⟩
      refine Ol.x (apn (i := 1) (n := 0) (m := 1) (xs := []) sl_L_int zr_int rfl (by decide) rfl (Src.row (i := 0) rfl rfl) (by intro u hu; simp at hu; subst hu; rfl) (by decide) (by decide)) ?_
      rintro _ _ ⟨A', c', rfl, rfl⟩
      refine Ol.p ass ?_
      refine Ol.keep (.sub (.cons _ (List.Sublist.refl _))) ?_
      refine Ol.nil ?_
      exact ⟨A', c', ⟨rfl, rfl, trivial⟩, rfl⟩
    rw [h, cond_false] at hla
    subst hla
    refine Cd.skip ?_
    exact ⟨none, 0, ⟨rfl, rfl, trivial⟩, rfl⟩
  rintro σ' _ ⟨A, c, hs', rfl⟩
  refine Cd.has hs' ?_
  clear hs'
  have hla1 : la.length ≤ 1 := by
    rw [hla]
    cases (hasS i.op).contains 97 <;> simp
  have hlb1 : lb.length ≤ 1 := by
    rw [hlb]
    cases (hasS i.op).contains 98 <;> simp
  refine Cd.mid (fun σ' L' => ∃ A c, Has σ' [(1, .pointer (some ⟨g1, 0, none⟩)), (3, .slice A (la ++ lb).length c)] ∧ [row (.slice A (la ++ lb).length c) 3 1 (la ++ lb).length (ints (la ++ lb)), blk g1 (.cells i.cells.toArray 25)] = L') ?_ ?_
  · refine Cd.seq ?_
    refine Cd.region ?_
    refine Ol.p (fdl fd_api_Ins_0) ?_
    refine Ol.p (ld (v := .int .i64 i.op) one_api_Op (Rd.blk (i := 1) rfl rfl)) ?_
    refine Ol.s (cl (v := .string (strB (hasS i.op))) en_ref03_has (fun M w' hh => ref03_has_ct)) ?_
    refine Ol.s (cl (v := .bool ((hasS i.op).contains 98)) en_ref03_in (fun M w' hh => ref03_in_ct (hasS_len _))) ?_
    refine Ol.nil ?_
    refine Cd.cond rfl (fun h => ?_) (fun h => ?_)   -- $19
    · rw [h, cond_true] at hlb
      subst hlb
      have e1 : (la ++ [i.b]).length = la.length + 1 := by simp
      have e2 : ints (la ++ [i.b]) = ints la ++ [.int .i64 i.b] := by simp [ints]
      rw [e1, e2]
      refine Cd.region ?_
      refine Ol.p mvs ?_
      refine Ol.p (fdl fd_api_Ins_3) ?_
      refine Ol.p (ld (v := .int .i64 i.b) one_int (Rd.blk (i := 1) rfl rfl)) ?_
      refine Ol.x (bsv [.int .i64 i.b] sl_L_int zr_int (by simp [Value.cells])) ?_
      rintro _ _ ⟨g23, rfl, rfl⟩
      refine Ol.x (apn (i := 1) (m := 1) sl_L_int zr_int rfl (by decide) rfl (Src.row (i := 0) rfl rfl) (by intro u hu; simp at hu; subst hu; rfl) (by unfold maxLen; omega) (by omega)) ?_
      rintro _ _ ⟨A', c', rfl, rfl⟩
      refine Ol.p ass ?_
      refine Ol.keep (.sub (.cons _ (List.Sublist.refl _))) ?_
      refine Ol.nil ?_
      exact ⟨A', c', ⟨rfl, rfl, trivial⟩, rfl⟩
    rw [h, cond_false] at hlb
    subst hlb
    rw [List.append_nil]
    refine Cd.skip ?_
    exact ⟨A, c, ⟨rfl, rfl, trivial⟩, rfl⟩
  rintro σ' _ ⟨A2, c2, hs', rfl⟩
  refine Cd.has hs' ?_
  clear hs'
  have hl2 : (la ++ lb).length ≤ 2 := by rw [List.length_append]; omega
  have e1 : (readsL i).length = (la ++ lb).length + i.args.length := by rw [hR, ← List.append_assoc, List.length_append]
  have e2 : ints (readsL i) = ints (la ++ lb) ++ ints i.args := by rw [hR, ← List.append_assoc]; simp [ints]
  rw [e1, e2]
  refine Cd.seq ?_
  refine Cd.region ?_
  refine Ol.p mvs ?_
  refine Ol.p (fdl fd_api_Ins_6) ?_
  refine Ol.p (ld (v := .slice i.aA i.args.length i.aC) one_L_int (Rd.blk (i := 1) rfl rfl)) ?_
  refine Ol.x (apn (i := 0) sl_L_int zr_int rfl (by decide) rfl (Src.slc hia) (ints_one _) (by unfold maxLen; omega) (by omega)) ?_
  rintro _ _ ⟨A', c', rfl, rfl⟩
  refine Ol.p ass ?_
  refine Ol.nil ?_
  exact Cd.ret ⟨.slice _ _ _, ret1 rfl rfl, _, .sub (.cons_cons _ (.cons _ .slnil)), _, _, rfl, rfl⟩
theorem ref03_Defines_ct {w : World} {i : RIns} (hia : Reads w w.heap.size 1 i.aA i.args.length (ints i.args)) (hal : i.args.length < 2 ^ 60) : Ct Tryz.prog 40 #[i.val] w (Is (.int .i64 (defI i))) := by
  refine Ct.mk Tryz.func40 rfl rfl ?_
  refine Cd.seq ?_
  refine Cd.region ?_
  refine Ol.x bxg ?_
  rintro _ _ ⟨g1, rfl, rfl⟩
  refine Ol.p asi ?_
  refine Ol.nil ?_
  refine Cd.seq ?_
  refine Cd.seq ?_
  refine Cd.region ?_
  refine Ol.p (ldw (cs := i.cells.toArray) ag_api_Ins (i := 0) rfl rfl) ?_
  refine Ol.s (cl (v := .bool (isIns i)) en_ref03_IsIns (fun M w' hh => ref03_IsIns_ct (hia.now hh) hal)) ?_
  refine Ol.p noti ?_
  refine Ol.nil ?_
  refine Cd.cond rfl (fun h => ?_) (fun h => ?_)   -- $5
  · have h0 : isIns i = false := by simpa using h
    have e : defI i = 0 := by unfold defI; rw [h0]; rfl
    refine Cd.seq ?_
    refine Cd.region ?_
    refine Ol.p asi ?_
    refine Ol.nil ?_
    exact Cd.ret ⟨.int .i64 0, ret1 rfl rfl, [], Keep.nil, by rw [e], rfl⟩
  have h0 : isIns i = true := by simpa using h
  have e : defI i = i.dst := by unfold defI; rw [h0]; rfl
  refine Cd.skip ?_
  refine Cd.seq ?_
  refine Cd.region ?_
  refine Ol.p (fdl fd_api_Ins_1) ?_
  refine Ol.p (ld (v := .int .i64 i.dst) one_int (Rd.blk (i := 0) rfl rfl)) ?_
  refine Ol.p asi ?_
  refine Ol.nil ?_
  exact Cd.ret ⟨.int .i64 i.dst, ret1 rfl rfl, [], Keep.nil, by rw [e], rfl⟩
end
end Go.Proofs.YtjenaenakopicaaGreat

/- Counts of edges, their order, unions of what is reached: plain laws. -/
namespace Go.Proofs.YtjenaenakopicaaGreat
set_option linter.unusedVariables false
set_option maxRecDepth 10000
open Go Go.RowKit

theorem src_range {ts : List Tm} {e : Ed} (he : e ∈ edges ts) : 0 ≤ e.src ∧ e.src < ts.length ∧ 0 ≤ e.arm ∧ e.arm < 2 := by
  obtain ⟨k, j, t, hk, hj, h1, h2⟩ := mem_edges.1 he
  have := (List.getElem?_eq_some_iff.1 hk).1
  have h3 := (List.getElem?_eq_some_iff.1 hj).1
  have := toL_len t
  omega
def outTo (ts : List Tm) (k : Nat) : Nat := (someE ts fun e => decide (e.src < (k : Int))).length
def inTo (ts : List Tm) (k : Nat) : Nat := (someE ts fun e => decide (e.to < (k : Int))).length
/-- The critical edges among the first ones. -/
def critTo (ts : List Tm) (k : Nat) : List Ed := ((someE ts fun _ => true).take k).filter (critE ts)
def EdLt (a b : Ed) : Prop := a.src < b.src ∨ (a.src = b.src ∧ a.arm < b.arm)
end Go.Proofs.YtjenaenakopicaaGreat

/- Plain laws behind the document's answer of layer 03: rounds over all edges. -/
namespace Go.Proofs.YtjenaenakopicaaGreat
set_option linter.unusedVariables false
set_option linter.unusedSimpArgs false
open Go Go.RowKit

def orB (S : Nat → Bool) (t : Nat) (c : Bool) : Nat → Bool := fun i => if i = t then S i || c else S i
def upE (P S : Nat → Bool) (e : Ed) : Nat → Bool := orB S e.to.toNat (S e.src.toNat && P e.src.toNat)
/-- The first m edges are gone along. -/
def passM (P : Nat → Bool) (ts : List Tm) (m : Nat) (S : Nat → Bool) : Nat → Bool := ((edges ts).take m).foldl (upE P) S
def passA (P : Nat → Bool) (ts : List Tm) (S : Nat → Bool) : Nat → Bool := passM P ts (edges ts).length S
theorem orB_mono {S : Nat → Bool} {t : Nat} {c : Bool} {i : Nat} (h : S i = true) : orB S t c i = true := by
  unfold orB
  split
  · rw [h]; rfl
  · exact h
section
variable {P : Nat → Bool} {ts : List Tm}
theorem passM_succ {m : Nat} {e : Ed} (h : (edges ts)[m]? = some e) (S : Nat → Bool) : passM P ts (m + 1) S = upE P (passM P ts m S) e := by
  unfold passM
  rw [take_snoc_ h, List.foldl_append]
  rfl
theorem passM_over {m : Nat} (h : (edges ts).length ≤ m) (S : Nat → Bool) : passM P ts m S = passA P ts S := by
  unfold passA passM
  rw [List.take_of_length_le h, List.take_length]
theorem passM_mono {S : Nat → Bool} {i : Nat} : ∀ (m d : Nat), passM P ts m S i = true → passM P ts (m + d) S i = true
  | m, 0, h => h
  | m, d + 1, h => by
    have ih := passM_mono m d h
    rw [← Nat.add_assoc]
    by_cases hl : m + d < (edges ts).length
    · rw [passM_succ (List.getElem?_eq_getElem hl)]
      exact orB_mono ih
    · rw [passM_over (by omega)] at ih ⊢
      exact ih
theorem passM_sub {S : Nat → Bool} {i : Nat} (h : S i = true) (m : Nat) : passM P ts m S i = true := by
  have := passM_mono (P := P) (ts := ts) (S := S) (i := i) 0 m h
  rwa [Nat.zero_add] at this
theorem passM_all {S : Nat → Bool} {i m : Nat} (hm : m ≤ (edges ts).length) (h : passM P ts m S i = true) : passA P ts S i = true := by
  have := passM_mono (P := P) (ts := ts) (S := S) (i := i) m ((edges ts).length - m) h
  rwa [Nat.add_sub_cancel' hm] at this
theorem passM_sound {R : Nat → Prop} {S : Nat → Bool} (hS : ∀ i, S i = true → R i) (hR : ∀ e ∈ edges ts, R e.src.toNat → P e.src.toNat = true → R e.to.toNat) : ∀ m i, passM P ts m S i = true → R i
  | 0, i, h => hS i h
  | m + 1, i, h => by
    by_cases hl : m < (edges ts).length
    · rw [passM_succ (List.getElem?_eq_getElem hl)] at h
      unfold upE orB at h
      split at h
      · rename_i e
        rw [Bool.or_eq_true, Bool.and_eq_true] at h
        rcases h with h | ⟨h1, h2⟩
        · exact passM_sound hS hR m i h
        · rw [e]
          exact hR _ (List.getElem_mem hl) (passM_sound hS hR m _ h1) h2
      · exact passM_sound hS hR m i h
    · rw [passM_over (by omega), ← passM_over (m := m) (by omega)] at h
      exact passM_sound hS hR m i h
def Ends (ts : List Tm) (n : Nat) : Prop := ∀ e ∈ edges ts, e.src.toNat < n ∧ e.to.toNat < n
def FixB (P : Nat → Bool) (ts : List Tm) (n : Nat) (S : Nat → Bool) : Prop := ∀ i, i < n → passA P ts S i = S i
theorem FixB.closed {n : Nat} {S : Nat → Bool} (hE : Ends ts n) (h : FixB P ts n S) {e : Ed} (he : e ∈ edges ts) (h1 : S e.src.toNat = true) (h2 : P e.src.toNat = true) : S e.to.toNat = true := by
  obtain ⟨j, hj⟩ := List.mem_iff_getElem?.1 he
  have hjl := (List.getElem?_eq_some_iff.1 hj).1
  rw [← h _ (hE e he).2]
  refine passM_all (m := j + 1) (by omega) ?_
  rw [passM_succ hj]
  unfold upE orB
  rw [if_pos rfl, passM_sub h1, h2]
  simp
theorem passM_congr {n : Nat} {S T : Nat → Bool} (hE : Ends ts n) (h : ∀ i, i < n → S i = T i) : ∀ m i, i < n → passM P ts m S i = passM P ts m T i
  | 0, i, hi => h i hi
  | m + 1, i, hi => by
    by_cases hl : m < (edges ts).length
    · rw [passM_succ (List.getElem?_eq_getElem hl), passM_succ (List.getElem?_eq_getElem hl)]
      have hm := hE _ (List.getElem_mem hl)
      unfold upE orB
      rw [passM_congr hE h m i hi, passM_congr hE h m _ hm.1]
    · rw [passM_over (by omega), passM_over (by omega), ← passM_over (m := m) (by omega), ← passM_over (m := m) (by omega)]
      exact passM_congr hE h m i hi
theorem FixB.next {n : Nat} {S : Nat → Bool} (hE : Ends ts n) (h : FixB P ts n S) : FixB P ts n (passA P ts S) := fun i hi => by
  have h1 := passM_congr (P := P) hE h (edges ts).length i hi
  exact h1
theorem cntB_up {n : Nat} {S T : Nat → Bool} (h : ∀ i, i < n → S i = true → T i = true) {i : Nat} (hi : i < n) (hS : S i = false) (hT : T i = true) : cntB n S + 1 ≤ cntB n T := by
  unfold cntB
  have hmem : i ∉ (List.range n).filter S := fun hm => by
    rw [(List.mem_filter.1 hm).2] at hS; cases hS
  have := nodup_le (i :: (List.range n).filter S) ((List.range n).filter T) (List.nodup_cons.2 ⟨hmem, List.Pairwise.filter _ List.nodup_range⟩) (fun x hx => by
    rcases List.mem_cons.1 hx with rfl | hx
    · exact List.mem_filter.2 ⟨by simpa using hi, hT⟩
    · obtain ⟨h1, h2⟩ := List.mem_filter.1 hx
      exact List.mem_filter.2 ⟨h1, h x (by simpa using h1) h2⟩)
  simpa using this
theorem rounds {n : Nat} (hE : Ends ts n) (S : Nat → Bool) : ∀ k, FixB P ts n (iterF (passA P ts) k S) ∨ k + cntB n S ≤ cntB n (iterF (passA P ts) k S)
  | 0 => .inr (by rw [Nat.zero_add]; exact Nat.le_refl _)
  | k + 1 => by
    by_cases hf : FixB P ts n (iterF (passA P ts) k S)
    · exact .inl (hf.next hE)
    · rcases rounds hE S k with h | h
      · exact absurd h hf
      · right
        have : ∃ i, i < n ∧ passA P ts (iterF (passA P ts) k S) i ≠ iterF (passA P ts) k S i := by
          apply Classical.byContradiction
          intro hno
          exact hf fun i hi => Classical.byContradiction fun hne => hno ⟨i, hi, hne⟩
        obtain ⟨i, hi, hne⟩ := this
        have hS : iterF (passA P ts) k S i = false := by
          cases hc : iterF (passA P ts) k S i with
          | false => rfl
          | true => exact absurd (by rw [hc]; exact passM_sub hc _) hne
        have hT : passA P ts (iterF (passA P ts) k S) i = true := by
          cases hc : passA P ts (iterF (passA P ts) k S) i with
          | true => rfl
          | false => exact absurd (hc.trans hS.symm) hne
        have := cntB_up (T := passA P ts (iterF (passA P ts) k S)) (fun j _ hj => passM_sub hj _) hi hS hT
        show k + 1 + cntB n S ≤ cntB n (passA P ts (iterF (passA P ts) k S))
        omega
/-- The last round but one has nothing more to do. -/
theorem rounds_last {n : Nat} (hE : Ends ts n) (hn : 0 < n) {S : Nat → Bool} (h0 : 1 ≤ cntB n S ∨ ∀ i, i < n → S i = false) : FixB P ts n (iterF (passA P ts) (n - 1) S) := by
  rcases h0 with h0 | h0
  · rcases rounds (P := P) hE S (n - 1) with h | h
    · exact h
    · have hall : ∀ i, i < n → iterF (passA P ts) (n - 1) S i = true := fun i hi => by
        cases hc : iterF (passA P ts) (n - 1) S i with
        | true => rfl
        | false =>
          have := cntB_up (n := n) (S := iterF (passA P ts) (n - 1) S) (T := fun _ => true) (fun _ _ _ => rfl) hi hc rfl
          have := cntB_le n (fun _ => true)
          omega
      intro i hi
      rw [hall i hi]
      exact passM_sub (hall i hi) _
  · have key : ∀ k, ∀ i, i < n → iterF (passA P ts) k S i = false := by
      intro k
      induction k with
      | zero => exact h0
      | succ k ih =>
        intro i hi
        cases hc : iterF (passA P ts) (k + 1) S i with
        | false => rfl
        | true =>
          have := passM_sound (P := P) (ts := ts) (R := fun i => n ≤ i) (S := iterF (passA P ts) k S) (fun i h => by
            by_cases hi : i < n
            · rw [ih i hi] at h; cases h
            · omega) (fun e he h _ => by have := (hE e he).1; omega) (edges ts).length i hc
          omega
    intro i hi
    have := key (n - 1 + 1) i hi
    rw [key (n - 1) i hi]
    exact this
theorem iter_sub {S : Nat → Bool} {i : Nat} (h : S i = true) : ∀ k, iterF (passA P ts) k S i = true
  | 0 => h
  | k + 1 => passM_sub (iter_sub h k) _
theorem iter_sound {R : Nat → Prop} {S : Nat → Bool} (hS : ∀ i, S i = true → R i) (hR : ∀ e ∈ edges ts, R e.src.toNat → P e.src.toNat = true → R e.to.toNat) : ∀ k i, iterF (passA P ts) k S i = true → R i
  | 0, i, h => hS i h
  | k + 1, i, h => passM_sound (fun i h => iter_sound hS hR k i h) hR _ i h
end
theorem ends_of {ts : List Tm} (hc : closed ts = true) : Ends ts ts.length := fun e he => by
  have h1 := src_range he
  have h2 := (closed_len hc).2.2 e he
  omega
def oneB : Nat → Bool := fun i => decide (i = 0)
/-- The blocks that rounds reach are those that a way goes to. -/
theorem reached_rounds {ts : List Tm} (hc : closed ts = true) {i : Nat} (hi : i < ts.length) : iterF (passA (fun _ => true) ts) ts.length oneB i = true ↔ Rc ts 0 i := by
  have hE := ends_of hc
  have hn := (closed_len hc).1
  have hcnt : 1 ≤ cntB ts.length oneB := by
    have := cntB_up (n := ts.length) (S := fun _ => false) (T := oneB) (fun _ _ h => by cases h) hn rfl rfl
    omega
  constructor
  · intro h
    refine iter_sound (P := fun _ => true) (ts := ts) (R := fun i => Rc ts 0 i) (fun i h => ?_) (fun e he h _ => ?_) _ i h
    · have : i = 0 := of_decide_eq_true h
      rw [this]; exact .refl
    · have h1 := src_range he
      have h2 := (closed_len hc).2.2 e he
      refine .step h ?_
      obtain ⟨k, j, t, hk, hj, h3, h4⟩ := mem_edges.1 he
      rw [show e.src.toNat = k by omega, toAt_some hk, Int.toNat_of_nonneg h2.1]
      exact List.mem_of_getElem? hj
  · intro h
    have hfix := rounds_last (P := fun _ => true) hE hn (.inl hcnt)
    have key : ∀ i, Rc ts 0 i → iterF (passA (fun _ => true) ts) (ts.length - 1) oneB i = true := by
      intro i h
      induction h with
      | refl => exact iter_sub rfl _
      | @step b c hb hbc ih =>
        have hcl := toAt_lt hc hbc
        unfold toAt at hbc
        cases ht : ts[b]? with
        | none => rw [ht] at hbc; cases hbc
        | some t =>
          rw [ht] at hbc
          obtain ⟨j, hj⟩ := List.mem_iff_getElem?.1 hbc
          have hm : (⟨(b : Int), (j : Int), (c : Int)⟩ : Ed) ∈ edges ts := mem_edges.2 ⟨b, j, t, ht, hj, rfl, rfl⟩
          have := hfix.closed hE hm (by show iterF (passA (fun _ => true) ts) (ts.length - 1) oneB (Int.toNat (b : Int)) = true; rw [Int.toNat_natCast]; exact ih) rfl
          simpa using this
    have e0 : ∀ m, iterF (passA (fun _ => true) ts) (m + 1) oneB = passA (fun _ => true) ts (iterF (passA (fun _ => true) ts) m oneB) := fun _ => rfl
    have e := e0 (ts.length - 1)
    rw [Nat.sub_add_cancel hn] at e
    rw [e]
    exact passM_sub (key i h) _
/-- Does a block give a variable no value? -/
def bareP (f : RFun) (v : Int) (b : Nat) : Bool := match f.blocks[b]? with
  | some x => x.ins.all fun i => !decide (defI i = v)
  | none => false
def openB (f : RFun) (v : Int) : Nat → Bool := fun i => decide (i = 0) && !f.params.contains v
open Classical in
/-- May a variable be without a value where it is read? -/
noncomputable def lacksB (f : RFun) (v : Int) : Bool := decide (∃ (b : Nat) (x : RBlk), f.blocks[b]? = some x ∧ exposed x.ins x.term v = true ∧ Bare f v.toNat b)
theorem lacksB_iff {f : RFun} {v : Int} : lacksB f v = true ↔ ∃ (b : Nat) (x : RBlk), f.blocks[b]? = some x ∧ exposed x.ins x.term v = true ∧ Bare f v.toNat b := by
  unfold lacksB; exact @decide_eq_true_iff _ (Classical.propDecidable _)
theorem bare_edge {f : RFun} {v : Int} (hc : closed f.terms = true) : ∀ e ∈ edges f.terms, Bare f v.toNat e.src.toNat → bareP f v e.src.toNat = true → (1 ≤ v) → Bare f v.toNat e.to.toNat := by
  intro e he h hP hv
  have hr := src_range he
  obtain ⟨k, j, t, hk, hj, h3, h4⟩ := mem_edges.1 he
  unfold RFun.terms at hk
  rw [List.getElem?_map] at hk
  have hs : e.src.toNat = k := by omega
  unfold bareP at hP
  rw [hs] at hP h
  cases hx : f.blocks[k]? with
  | none => rw [hx] at hk; cases hk
  | some x =>
    rw [hx] at hk hP
    have ht : x.term = t := Option.some.inj hk
    rw [List.all_eq_true] at hP
    have h0 := ((closed_len hc).2.2 e he).1
    refine .step h hx (fun i hi => ?_) ?_
    · have h1 := hP i hi
      have hd := defI_range i
      have : ¬ defI i = v := by simpa using h1
      omega
    · rw [ht, Int.toNat_of_nonneg h0]
      exact List.mem_of_getElem? hj
theorem open_zero {f : RFun} {v : Int} (hv : 1 ≤ v) (hp : ∀ p ∈ f.params, 1 ≤ p) (i : Nat) (h : openB f v i = true) : Bare f v.toNat i := by
  unfold openB at h
  rw [Bool.and_eq_true, Bool.not_eq_true'] at h
  rw [of_decide_eq_true h.1]
  refine .zero fun p hpm e => ?_
  have := hp p hpm
  have e2 : p = v := by omega
  rw [← e2, List.contains_iff_mem.2 hpm] at h
  cases h.2
theorem open_sound {f : RFun} {v : Int} (hc : closed f.terms = true) (hv : 1 ≤ v) (hp : ∀ p ∈ f.params, 1 ≤ p) (m k i : Nat) (h : passM (bareP f v) f.terms m (iterF (passA (bareP f v) f.terms) k (openB f v)) i = true) : Bare f v.toNat i :=
  passM_sound (R := fun i => Bare f v.toNat i) (fun i h => iter_sound (R := fun i => Bare f v.toNat i) (open_zero hv hp) (fun e he h1 h2 => bare_edge hc e he h1 h2 hv) k i h) (fun e he h1 h2 => bare_edge hc e he h1 h2 hv) m i h
theorem open_full {f : RFun} {v : Int} (hc : closed f.terms = true) (hv : 1 ≤ v) (hp : ∀ p ∈ f.params, 1 ≤ p) {b : Nat} (h : Bare f v.toNat b) : iterF (passA (bareP f v) f.terms) (f.terms.length - 1) (openB f v) b = true := by
  have hE := ends_of hc
  have hn := (closed_len hc).1
  have h0 : 1 ≤ cntB f.terms.length (openB f v) ∨ ∀ i, i < f.terms.length → openB f v i = false := by
    cases hb : openB f v 0 with
    | true =>
      have := cntB_up (n := f.terms.length) (S := fun _ => false) (T := openB f v) (fun _ _ h => by cases h) hn rfl hb
      exact .inl (by omega)
    | false =>
      right
      intro i hi
      by_cases h : i = 0
      · rw [h]; exact hb
      · unfold openB
        rw [decide_eq_false h]; rfl
  have hfix := rounds_last (P := bareP f v) hE hn h0
  induction h with
  | zero hpz =>
    refine iter_sub ?_ _
    unfold openB
    rw [Bool.and_eq_true, Bool.not_eq_true']
    refine ⟨rfl, ?_⟩
    cases hcon : f.params.contains v with
    | false => rfl
    | true => exact absurd rfl (hpz v (List.contains_iff_mem.1 hcon))
  | @step a b x _ hx hd ht ih =>
    obtain ⟨j, hj⟩ := List.mem_iff_getElem?.1 ht
    have htx : f.terms[a]? = some x.term := by unfold RFun.terms; rw [List.getElem?_map, hx]; rfl
    have hm : (⟨(a : Int), (j : Int), (b : Int)⟩ : Ed) ∈ edges f.terms := mem_edges.2 ⟨a, j, x.term, htx, hj, rfl, rfl⟩
    have hP : bareP f v a = true := by
      unfold bareP
      rw [hx, List.all_eq_true]
      intro i hi
      have h1 := hd i hi
      have : ¬ defI i = v := fun e => h1 (by rw [e])
      simp [this]
    have := hfix.closed hE hm (by show iterF (passA (bareP f v) f.terms) (f.terms.length - 1) (openB f v) (Int.toNat (a : Int)) = true; rw [Int.toNat_natCast]; exact ih) (by show bareP f v (Int.toNat (a : Int)) = true; rw [Int.toNat_natCast]; exact hP)
    simpa using this
theorem valued_lacks {f : RFun} : valuedF f = true ↔ ∀ v : Int, 1 ≤ v → v ≤ 200 → lacksB f v = false := by
  rw [valuedF_iff]
  constructor
  · intro h v _ _
    cases hl : lacksB f v with
    | false => rfl
    | true =>
      obtain ⟨b, x, h1, h2, h3⟩ := lacksB_iff.1 hl
      exact absurd h3 (h b x v h1 h2)
  · intro h b x v hx he hb
    have hr := exposed_range he
    have := h v hr.1 hr.2
    rw [lacksB_iff.2 ⟨b, x, hx, he, hb⟩] at this
    cases this
end Go.Proofs.YtjenaenakopicaaGreat

/- The document's answer of layer 03: a function's length, its shape, what is reached, walked. -/
namespace Go.Proofs.YtjenaenakopicaaGreat
set_option linter.unusedVariables false
set_option linter.unusedSimpArgs false
open Go Go.RowKit
set_option maxRecDepth 100000

theorem lt_of {a b : Nat} (h : decide ((a : Int) < (b : Int)) = true) : a < b := by have := of_decide_eq_true h; omega
theorem ge_of {a b : Nat} (h : decide ((a : Int) < (b : Int)) = false) : b ≤ a := by have := of_decide_eq_false h; omega
theorem tm_slc {f : RFun} {b : Nat} {x : RBlk} (hx : f.blocks[b]? = some x) : ∀ (j : Nat) (u : Value), x.term.cells[j]? = some u → (f.blocks.flatMap RBlk.cells)[b * 5 + 1 + j]? = some u := fun j u hu => by
  rw [Nat.add_assoc]
  refine blk_cell hx ?_
  rw [Nat.add_comm]
  simpa [RBlk.cells] using hu
theorem ins_slc {f : RFun} {b : Nat} {x : RBlk} (hx : f.blocks[b]? = some x) : (f.blocks.flatMap RBlk.cells)[b * 5 + 0]? = some (.slice x.iA x.ins.length x.iC) := blk_cell hx rfl
section
theorem ref03_long_ct {w : World} {f : RFun} (hf : FunAt w w.heap.size f) (hfit : Fit f) : Ct Tryz.prog 84 #[f.val] w (Is (.bool (longF f))) := by
  have hbl := hfit.blen
  refine Ct.mk Tryz.func84 rfl rfl ?_
  refine Cd.seq ?_
  refine Cd.region ?_
  refine Ol.x bxg ?_
  rintro _ _ ⟨g1, rfl, rfl⟩
  refine Ol.p asb ?_
  refine Ol.nil ?_
  have e : longF f = ((decide ((f.blocks.length : Int) < 1) || (decide (200 < (f.blocks.length : Int)) || decide (8 < (f.params.length : Int)))) || f.blocks.any fun b => decide (64 < b.ins.length)) := by
    unfold longF
    rw [show decide ((f.blocks.length : Int) < 1) = decide (f.blocks.length = 0) by rw [decide_eq_decide]; omega, show decide (200 < (f.blocks.length : Int)) = decide (200 < f.blocks.length) by rw [decide_eq_decide]; omega, show decide (8 < (f.params.length : Int)) = decide (8 < f.params.length) by rw [decide_eq_decide]; omega, Bool.or_assoc (decide (f.blocks.length = 0))]
  refine Cd.seq ?_
  refine Cd.mid (fun σ' L' => Has σ' [(1, .pointer (some ⟨g1, 0, none⟩)), (19, .bool (decide ((f.blocks.length : Int) < 1) || (decide (200 < (f.blocks.length : Int)) || decide (8 < (f.params.length : Int)))))] ∧ [blk g1 (.cells f.cells.toArray 37)] = L') ?_ ?_
  · skip
    cases q0 : decide ((f.blocks.length : Int) < 1) with
    | false =>
      cases q1 : decide (200 < (f.blocks.length : Int)) with
      | false =>
        refine Cd.region ?_
        refine Ol.p (fdl fd_api_Func_1) ?_
        refine Ol.p (ld (v := .slice f.bA f.blocks.length f.bC) one_L_api_Block (Rd.blk (i := 0) rfl rfl)) ?_
        refine Ol.p (lens sl_L_api_Block) ?_
        refine Ol.p lsi ?_
        refine Ol.p mvb ?_
        refine Ol.gp q0 (fdl fd_api_Func_1) ?_
        refine Ol.gp q0 (ld (v := .slice f.bA f.blocks.length f.bC) one_L_api_Block (Rd.blk (i := 0) rfl rfl)) ?_
        refine Ol.gp q0 (lens sl_L_api_Block) ?_
        refine Ol.gp q0 gti ?_
        refine Ol.p (pkFb q0) ?_
        refine Ol.p mvb ?_
        refine Ol.gp q1 (fdl fd_api_Func_0) ?_
        refine Ol.gp q1 (ld (v := .slice f.pA f.params.length f.pC) one_L_int (Rd.blk (i := 0) rfl rfl)) ?_
        refine Ol.gp q1 (lens sl_L_int) ?_
        refine Ol.gp q1 gti ?_
        refine Ol.p (pkFb q1) ?_
        refine Ol.nil ?_
        exact ⟨⟨rfl, rfl, trivial⟩, rfl⟩
      | true =>
        refine Cd.region ?_
        refine Ol.p (fdl fd_api_Func_1) ?_
        refine Ol.p (ld (v := .slice f.bA f.blocks.length f.bC) one_L_api_Block (Rd.blk (i := 0) rfl rfl)) ?_
        refine Ol.p (lens sl_L_api_Block) ?_
        refine Ol.p lsi ?_
        refine Ol.p mvb ?_
        refine Ol.gp q0 (fdl fd_api_Func_1) ?_
        refine Ol.gp q0 (ld (v := .slice f.bA f.blocks.length f.bC) one_L_api_Block (Rd.blk (i := 0) rfl rfl)) ?_
        refine Ol.gp q0 (lens sl_L_api_Block) ?_
        refine Ol.gp q0 gti ?_
        refine Ol.p (pkFb q0) ?_
        refine Ol.p mvb ?_
        refine Ol.gn q1 ?_
        refine Ol.gn q1 ?_
        refine Ol.gn q1 ?_
        refine Ol.gn q1 ?_
        refine Ol.p (pkTb q1) ?_
        refine Ol.nil ?_
        exact ⟨⟨rfl, rfl, trivial⟩, rfl⟩
    | true =>
      refine Cd.region ?_
      refine Ol.p (fdl fd_api_Func_1) ?_
      refine Ol.p (ld (v := .slice f.bA f.blocks.length f.bC) one_L_api_Block (Rd.blk (i := 0) rfl rfl)) ?_
      refine Ol.p (lens sl_L_api_Block) ?_
      refine Ol.p lsi ?_
      refine Ol.p mvb ?_
      refine Ol.gn q0 ?_
      refine Ol.gn q0 ?_
      refine Ol.gn q0 ?_
      refine Ol.gn q0 ?_
      refine Ol.p (pkTb q0) ?_
      refine Ol.p mvb ?_
      refine Ol.gn rfl ?_
      refine Ol.gn rfl ?_
      refine Ol.gn rfl ?_
      refine Ol.gn rfl ?_
      refine Ol.p (pkTb rfl) ?_
      refine Ol.nil ?_
      exact ⟨⟨rfl, rfl, trivial⟩, rfl⟩
  rintro σ' _ ⟨hs', rfl⟩
  refine Cd.has hs' ?_
  clear hs'
  refine Cd.cond rfl (fun h => ?_) (fun h => ?_)   -- $19
  · refine Cd.seq ?_
    refine Cd.region ?_
    refine Ol.p asb ?_
    refine Ol.nil ?_
    exact Cd.ret ⟨.bool true, ret1 rfl rfl, [], Keep.nil, by rw [e, h]; rfl, rfl⟩
  rw [h, Bool.false_or] at e
  refine Cd.skip ?_
  refine Cd.seq ?_
  refine Cd.seq ?_
  refine Cd.region ?_
  refine Ol.p asi ?_
  refine Ol.nil ?_
  refine Cd.block ?_   -- 0
  refine Cd.loop (fun m σ L => ∃ k, m = f.blocks.length - k ∧ k ≤ f.blocks.length ∧ ((f.blocks.take k).any fun b => decide (64 < b.ins.length)) = false ∧ Has σ [(1, .pointer (some ⟨g1, 0, none⟩)), (3, .int .i64 k)] ∧ [blk g1 (.cells f.cells.toArray 37)] = L) (n := f.blocks.length) ⟨0, rfl, Nat.zero_le _, rfl, ⟨rfl, rfl, trivial⟩, rfl⟩ ?_
  rintro _ σ L ⟨k, rfl, hk, hno, hs, rfl⟩
  refine Cd.has hs ?_
  clear hs
  refine Cd.seq ?_
  refine Cd.seq ?_
  refine Cd.region ?_
  refine Ol.p mvi ?_
  refine Ol.p (fdl fd_api_Func_1) ?_
  refine Ol.p (ld (v := .slice f.bA f.blocks.length f.bC) one_L_api_Block (Rd.blk (i := 0) rfl rfl)) ?_
  refine Ol.p (lens sl_L_api_Block) ?_
  refine Ol.p lsi ?_
  refine Ol.nil ?_
  refine Cd.cond rfl (fun h => ?_) (fun h => ?_)   -- $24
  · have hlt := lt_of h
    obtain ⟨x, hx⟩ : ∃ x, f.blocks[k]? = some x := ⟨_, List.getElem?_eq_getElem hlt⟩
    refine Cd.skip ?_
    refine Cd.seq ?_
    refine Cd.block ?_   -- 1
    refine Cd.seq ?_
    refine Cd.region ?_
    refine Ol.p (fdl fd_api_Func_1) ?_
    refine Ol.p (ld (v := .slice f.bA f.blocks.length f.bC) one_L_api_Block (Rd.blk (i := 0) rfl rfl)) ?_
    refine Ol.p mvi ?_
    refine Ol.p (ixn (ix := k) sl_L_api_Block (Som.slc hf.blocks (by omega))) ?_
    refine Ol.p (fdp fd_api_Block_0) ?_
    refine Ol.p (ld (v := .slice x.iA x.ins.length x.iC) one_L_api_Ins (Rd.slc hf.blocks (ins_slc hx))) ?_
    refine Ol.p (lens sl_L_api_Ins) ?_
    refine Ol.p gti ?_
    refine Ol.nil ?_
    refine Cd.cond rfl (fun h2 => ?_) (fun h2 => ?_)   -- $34
    · have h3 : decide (64 < x.ins.length) = true := by
        have := of_decide_eq_true h2
        exact decide_eq_true (by omega)
      refine Cd.seq ?_
      refine Cd.region ?_
      refine Ol.p asb ?_
      refine Ol.nil ?_
      exact Cd.ret ⟨.bool true, ret1 rfl rfl, [], Keep.nil, by rw [e, List.any_eq_true.2 ⟨x, List.mem_of_getElem? hx, h3⟩], rfl⟩
    have h3 : decide (64 < x.ins.length) = false := by
      have := of_decide_eq_false h2
      exact decide_eq_false (by omega)
    refine Cd.skip ?_
    refine Cd.region ?_
    refine Ol.p mvi ?_
    refine Ol.p addi ?_
    refine Ol.p asi ?_
    refine Ol.nil ?_
    refine ⟨f.blocks.length - (k + 1), by omega, k + 1, rfl, by omega, ?_, ⟨rfl, rfl, trivial⟩, rfl⟩
    rw [take_snoc_ hx, List.any_append, hno]
    simp only [List.any_cons, List.any_nil, h3]
    rfl
  have hge := ge_of h
  rw [List.take_of_length_le hge] at hno
  refine Cd.exit (id := 0) ?_
  refine Cd.seq ?_
  refine Cd.region ?_
  refine Ol.p asb ?_
  refine Ol.nil ?_
  exact Cd.ret ⟨.bool false, ret1 rfl rfl, [], Keep.nil, by rw [e, hno], rfl⟩
end
section
set_option maxHeartbeats 1000000 in
theorem ref03_shaped_ct {w : World} {f : RFun} (hf : FunAt w w.heap.size f) (hfit : Fit f) : Ct Tryz.prog 85 #[f.val] w (Is (.bool (wholeF f))) := by
  have hbl := hfit.blen
  have hpl := hfit.plen
  have e : wholeF f = (f.params.all varB && (decide f.params.Nodup && f.blocks.all wholeB)) := by unfold wholeF; rw [Bool.and_assoc]
  have hgp : ∀ (j : Nat) (n : Int), f.params[j]? = some n → (ints f.params)[j * 1]? = some (.int .i64 n) := fun j n h => by simp [ints, h]
  refine Ct.mk Tryz.func85 rfl rfl ?_
  refine Cd.seq ?_
  refine Cd.region ?_
  refine Ol.x bxg ?_
  rintro _ _ ⟨g1, rfl, rfl⟩
  refine Ol.p asb ?_
  refine Ol.nil ?_
  refine Cd.mid (fun σ' L' => (f.params.all varB = true ∧ f.params.Nodup) ∧ Has σ' [(1, .pointer (some ⟨g1, 0, none⟩))] ∧ [blk g1 (.cells f.cells.toArray 37)] = L') ?_ ?_
  · refine Cd.seq ?_
    refine Cd.region ?_
    refine Ol.p asi ?_
    refine Ol.nil ?_
    refine Cd.block ?_   -- 0
    refine Cd.loop (fun m σ L => ∃ k, m = f.params.length - k ∧ k ≤ f.params.length ∧ (f.params.take k).all varB = true ∧ (f.params.take k).Nodup ∧ Has σ [(1, .pointer (some ⟨g1, 0, none⟩)), (3, .int .i64 k)] ∧ [blk g1 (.cells f.cells.toArray 37)] = L) (n := f.params.length) ⟨0, rfl, Nat.zero_le _, rfl, List.nodup_nil, ⟨rfl, rfl, trivial⟩, rfl⟩ ?_
    rintro _ σ L ⟨k, rfl, hk, hall, hnd, hs, rfl⟩
    refine Cd.has hs ?_
    clear hs
    refine Cd.seq ?_
    refine Cd.seq ?_
    refine Cd.region ?_
    refine Ol.p mvi ?_
    refine Ol.p (fdl fd_api_Func_0) ?_
    refine Ol.p (ld (v := .slice f.pA f.params.length f.pC) one_L_int (Rd.blk (i := 0) rfl rfl)) ?_
    refine Ol.p (lens sl_L_int) ?_
    refine Ol.p lsi ?_
    refine Ol.nil ?_
    refine Cd.cond rfl (fun h => ?_) (fun h => ?_)   -- $11
    · have hlt := lt_of h
      obtain ⟨n, hn⟩ : ∃ n, f.params[k]? = some n := ⟨_, List.getElem?_eq_getElem hlt⟩
      refine Cd.skip ?_
      refine Cd.seq ?_
      refine Cd.block ?_   -- 1
      refine Cd.seq ?_
      refine Cd.seq ?_
      refine Cd.region ?_
      refine Ol.p (fdl fd_api_Func_0) ?_
      refine Ol.p (ld (v := .slice f.pA f.params.length f.pC) one_L_int (Rd.blk (i := 0) rfl rfl)) ?_
      refine Ol.p mvi ?_
      refine Ol.p (ixn (ix := k) sl_L_int (Som.slc hf.params (by omega))) ?_
      refine Ol.p (ld (v := .int .i64 n) one_int (Rd.slc hf.params (hgp k n hn))) ?_
      refine Ol.s (cl en_ref03_Var (fun M w' hh => ref03_Var_ct)) ?_
      refine Ol.p noti ?_
      refine Ol.nil ?_
      refine Cd.cond rfl (fun h2 => ?_) (fun h2 => ?_)   -- $20
      · have hno : varB n = false := by simpa using h2
        have e2 : f.params.all varB = false := by
          rw [List.all_eq_false]
          exact ⟨n, List.mem_of_getElem? hn, by rw [hno]; exact fun h => by cases h⟩
        refine Cd.seq ?_
        refine Cd.region ?_
        refine Ol.p asb ?_
        refine Ol.nil ?_
        exact Cd.ret ⟨.bool false, ret1 rfl rfl, [], Keep.nil, by rw [e, e2]; rfl, rfl⟩
      have hyes : varB n = true := by simpa using h2
      refine Cd.skip ?_
      refine Cd.seq ?_
      refine Cd.region ?_
      refine Ol.p asi ?_
      refine Ol.nil ?_
      refine Cd.block ?_   -- 2
      refine Cd.loop (fun m σ L => ∃ j, m = k - j ∧ j ≤ k ∧ n ∉ f.params.take j ∧ Has σ [(1, .pointer (some ⟨g1, 0, none⟩)), (3, .int .i64 k), (4, .int .i64 j)] ∧ [blk g1 (.cells f.cells.toArray 37)] = L) (n := k) ⟨0, rfl, Nat.zero_le _, by simp, ⟨rfl, rfl, rfl, trivial⟩, rfl⟩ ?_
      rintro _ σ L ⟨j, rfl, hj, hni, hs, rfl⟩
      refine Cd.has hs ?_
      clear hs
      refine Cd.seq ?_
      refine Cd.seq ?_
      refine Cd.region ?_
      refine Ol.p mvi ?_
      refine Ol.p mvi ?_
      refine Ol.p lsi ?_
      refine Ol.nil ?_
      refine Cd.cond rfl (fun h3 => ?_) (fun h3 => ?_)   -- $23
      · have hlt3 := lt_of h3
        obtain ⟨n2, hn2⟩ : ∃ n2, f.params[j]? = some n2 := ⟨_, List.getElem?_eq_getElem (by omega)⟩
        refine Cd.skip ?_
        refine Cd.seq ?_
        refine Cd.block ?_   -- 3
        refine Cd.seq ?_
        refine Cd.draw mixed 11 (fun _ => none) (fun _ => []) (by kernel_rfl) (fun _ _ h => by cases h) (fun u hu => ?_)
        refine Wk.p (fdl fd_api_Func_0) ?_
        refine Wk.p (ld (v := .slice f.pA f.params.length f.pC) one_L_int (Rd.blk (i := 0) rfl rfl)) ?_
        refine Wk.p mvi ?_
        refine Wk.p (ixn (ix := j) sl_L_int (Som.slc hf.params (by omega))) ?_
        refine Wk.p (ld (v := .int .i64 n2) one_int (Rd.slc hf.params (hgp j n2 hn2))) ?_
        refine Wk.p (fdl fd_api_Func_0) ?_
        refine Wk.p (ld (v := .slice f.pA f.params.length f.pC) one_L_int (Rd.blk (i := 0) rfl rfl)) ?_
        refine Wk.p mvi ?_
        refine Wk.p (ixn (ix := k) sl_L_int (Som.slc hf.params (by omega))) ?_
        refine Wk.p (ld (v := .int .i64 n) one_int (Rd.slc hf.params (hgp k n hn))) ?_
        refine Wk.p eqi ?_
        refine Wk.nil ?_
        refine Ol.nil ?_
        refine Cd.cond rfl (fun h4 => ?_) (fun h4 => ?_)   -- $36
        · have h4 : n2 = n := of_decide_eq_true h4
          have e2 : decide f.params.Nodup = false := by
            refine decide_eq_false fun hd => ?_
            obtain ⟨hl1, he1⟩ := List.getElem?_eq_some_iff.1 hn2
            obtain ⟨hl2, he2⟩ := List.getElem?_eq_some_iff.1 hn
            exact List.pairwise_iff_getElem.1 hd j k hl1 hl2 hlt3 (by rw [he1, he2, h4])
          refine Cd.seq ?_
          refine Cd.region ?_
          refine Ol.p asb ?_
          refine Ol.nil ?_
          exact Cd.ret ⟨.bool false, ret1 rfl rfl, [], Keep.nil, by rw [e, e2]; simp, rfl⟩
        have h4 : ¬ n2 = n := of_decide_eq_false h4
        refine Cd.skip ?_
        refine Cd.region ?_
        refine Ol.p mvi ?_
        refine Ol.p addi ?_
        refine Ol.p asi ?_
        refine Ol.nil ?_
        refine ⟨k - (j + 1), by omega, j + 1, rfl, by omega, ?_, ⟨rfl, rfl, rfl, trivial⟩, rfl⟩
        rw [take_snoc_ hn2]
        intro hm
        rcases List.mem_append.1 hm with hm | hm
        · exact hni hm
        · exact h4 (List.mem_singleton.1 hm).symm
      have hge3 := ge_of h3
      have hjk : j = k := by omega
      rw [hjk] at hni
      refine Cd.exit (id := 2) ?_
      refine Cd.region ?_
      refine Ol.p mvi ?_
      refine Ol.p addi ?_
      refine Ol.p asi ?_
      refine Ol.nil ?_
      refine ⟨f.params.length - (k + 1), by omega, k + 1, rfl, by omega, ?_, ?_, ⟨rfl, rfl, trivial⟩, rfl⟩
      · rw [take_snoc_ hn, List.all_append, hall]
        simp [hyes]
      · rw [take_snoc_ hn]
        exact List.nodup_append.2 ⟨hnd, List.nodup_cons.2 ⟨by simp, List.nodup_nil⟩, fun a ha b hb hab => by
          rw [List.mem_singleton.1 hb] at hab
          exact hni (hab ▸ ha)⟩
    have hge := ge_of h
    rw [List.take_of_length_le hge] at hall hnd
    refine Cd.exit (id := 0) ?_
    exact ⟨⟨hall, hnd⟩, ⟨rfl, trivial⟩, rfl⟩
  rintro σ' _ ⟨⟨hall, hnd⟩, hs', rfl⟩
  refine Cd.has hs' ?_
  clear hs'
  rw [hall, decide_eq_true hnd, Bool.true_and, Bool.true_and] at e
  refine Cd.seq ?_
  refine Cd.seq ?_
  refine Cd.region ?_
  refine Ol.p asi ?_
  refine Ol.nil ?_
  refine Cd.block ?_   -- 4
  refine Cd.loop (fun m σ L => ∃ k, m = f.blocks.length - k ∧ k ≤ f.blocks.length ∧ (f.blocks.take k).all wholeB = true ∧ Has σ [(1, .pointer (some ⟨g1, 0, none⟩)), (5, .int .i64 k)] ∧ [blk g1 (.cells f.cells.toArray 37)] = L) (n := f.blocks.length) ⟨0, rfl, Nat.zero_le _, rfl, ⟨rfl, rfl, trivial⟩, rfl⟩ ?_
  rintro _ σ L ⟨k, rfl, hk, hbs, hs, rfl⟩
  refine Cd.has hs ?_
  clear hs
  refine Cd.seq ?_
  refine Cd.seq ?_
  refine Cd.region ?_
  refine Ol.p mvi ?_
  refine Ol.p (fdl fd_api_Func_1) ?_
  refine Ol.p (ld (v := .slice f.bA f.blocks.length f.bC) one_L_api_Block (Rd.blk (i := 0) rfl rfl)) ?_
  refine Ol.p (lens sl_L_api_Block) ?_
  refine Ol.p lsi ?_
  refine Ol.nil ?_
  refine Cd.cond rfl (fun h => ?_) (fun h => ?_)   -- $41
  · have hlt := lt_of h
    obtain ⟨x, hx⟩ : ∃ x, f.blocks[k]? = some x := ⟨_, List.getElem?_eq_getElem hlt⟩
    have hxm := List.mem_of_getElem? hx
    have hxl := hfit.ilen x hxm
    have hbad : wholeB x = false → wholeF f = false := fun hw => by
      rw [e, List.all_eq_false]
      exact ⟨x, hxm, by rw [hw]; exact fun h => by cases h⟩
    refine Cd.skip ?_
    refine Cd.seq ?_
    refine Cd.block ?_   -- 5
    refine Cd.mid (fun σ' L' => x.ins.all isIns = true ∧ Has σ' [(1, .pointer (some ⟨g1, 0, none⟩)), (5, .int .i64 k)] ∧ [blk g1 (.cells f.cells.toArray 37)] = L') ?_ ?_
    · refine Cd.seq ?_
      refine Cd.region ?_
      refine Ol.p asi ?_
      refine Ol.nil ?_
      refine Cd.block ?_   -- 6
      refine Cd.loop (fun m σ L => ∃ j, m = x.ins.length - j ∧ j ≤ x.ins.length ∧ (x.ins.take j).all isIns = true ∧ Has σ [(1, .pointer (some ⟨g1, 0, none⟩)), (5, .int .i64 k), (6, .int .i64 j)] ∧ [blk g1 (.cells f.cells.toArray 37)] = L) (n := x.ins.length) ⟨0, rfl, Nat.zero_le _, rfl, ⟨rfl, rfl, rfl, trivial⟩, rfl⟩ ?_
      rintro _ σ L ⟨j, rfl, hj, his, hs, rfl⟩
      refine Cd.has hs ?_
      clear hs
      refine Cd.seq ?_
      refine Cd.seq ?_
      refine Cd.region ?_
      refine Ol.p mvi ?_
      refine Ol.p (fdl fd_api_Func_1) ?_
      refine Ol.p (ld (v := .slice f.bA f.blocks.length f.bC) one_L_api_Block (Rd.blk (i := 0) rfl rfl)) ?_
      refine Ol.p mvi ?_
      refine Ol.p (ixn (ix := k) sl_L_api_Block (Som.slc hf.blocks (by omega))) ?_
      refine Ol.p (fdp fd_api_Block_0) ?_
      refine Ol.p (ld (v := .slice x.iA x.ins.length x.iC) one_L_api_Ins (Rd.slc hf.blocks (ins_slc hx))) ?_
      refine Ol.p (lens sl_L_api_Ins) ?_
      refine Ol.p lsi ?_
      refine Ol.nil ?_
      refine Cd.cond rfl (fun h2 => ?_) (fun h2 => ?_)   -- $52
      · have hlt2 := lt_of h2
        obtain ⟨i, hi⟩ : ∃ i, x.ins[j]? = some i := ⟨_, List.getElem?_eq_getElem hlt2⟩
        have him := List.mem_of_getElem? hi
        refine Cd.skip ?_
        refine Cd.seq ?_
        refine Cd.block ?_   -- 7
        refine Cd.seq ?_
        refine Cd.region ?_
        refine Ol.p (fdl fd_api_Func_1) ?_
        refine Ol.p (ld (v := .slice f.bA f.blocks.length f.bC) one_L_api_Block (Rd.blk (i := 0) rfl rfl)) ?_
        refine Ol.p mvi ?_
        refine Ol.p (ixn (ix := k) sl_L_api_Block (Som.slc hf.blocks (by omega))) ?_
        refine Ol.p (fdp fd_api_Block_0) ?_
        refine Ol.p (ld (v := .slice x.iA x.ins.length x.iC) one_L_api_Ins (Rd.slc hf.blocks (ins_slc hx))) ?_
        refine Ol.p mvi ?_
        refine Ol.p (ixn (ix := j) sl_L_api_Ins (Som.slc (hf.ins x hxm) (by omega))) ?_
        refine Ol.p (lds (es := i.cells) ag_api_Ins (hf.ins x hxm) i.len (fun q u hu => ins_cell hi hu)) ?_
        refine Ol.s (cl (v := .bool (isIns i)) en_ref03_IsIns (fun M w' hh => ref03_IsIns_ct ((hf.args x hxm i him).now hh) (by have := hfit.alen x hxm i him; omega))) ?_
        refine Ol.p noti ?_
        refine Ol.nil ?_
        refine Cd.cond rfl (fun h3 => ?_) (fun h3 => ?_)   -- $65
        · have hno : isIns i = false := by simpa using h3
          have e2 : wholeB x = false := by
            unfold wholeB
            rw [List.all_eq_false.2 ⟨i, him, by rw [hno]; exact fun h => by cases h⟩, Bool.and_false]
          refine Cd.seq ?_
          refine Cd.region ?_
          refine Ol.p asb ?_
          refine Ol.nil ?_
          exact Cd.ret ⟨.bool false, ret1 rfl rfl, [], Keep.nil, by rw [hbad e2], rfl⟩
        have hyes : isIns i = true := by simpa using h3
        refine Cd.skip ?_
        refine Cd.region ?_
        refine Ol.p mvi ?_
        refine Ol.p addi ?_
        refine Ol.p asi ?_
        refine Ol.nil ?_
        refine ⟨x.ins.length - (j + 1), by omega, j + 1, rfl, by omega, ?_, ⟨rfl, rfl, rfl, trivial⟩, rfl⟩
        rw [take_snoc_ hi, List.all_append, his]
        simp [hyes]
      have hge2 := ge_of h2
      rw [List.take_of_length_le hge2] at his
      refine Cd.exit (id := 6) ?_
      exact ⟨his, ⟨rfl, rfl, trivial⟩, rfl⟩
    rintro σ' _ ⟨his, hs', rfl⟩
    refine Cd.has hs' ?_
    clear hs'
    refine Cd.seq ?_
    refine Cd.region ?_
    refine Ol.p (fdl fd_api_Func_1) ?_
    refine Ol.p (ld (v := .slice f.bA f.blocks.length f.bC) one_L_api_Block (Rd.blk (i := 0) rfl rfl)) ?_
    refine Ol.p mvi ?_
    refine Ol.p (ixn (ix := k) sl_L_api_Block (Som.slc hf.blocks (by omega))) ?_
    refine Ol.p (fdp fd_api_Block_1) ?_
    refine Ol.p (lds (es := x.term.cells) ag_api_Term hf.blocks rfl (tm_slc hx)) ?_
    refine Ol.s (cl (v := .bool (isTerm x.term)) en_ref03_IsTerm (fun M w' hh => ref03_IsTerm_ct (t := x.term))) ?_
    refine Ol.p noti ?_
    refine Ol.nil ?_
    refine Cd.cond rfl (fun h2 => ?_) (fun h2 => ?_)   -- $73
    · have hno : isTerm x.term = false := by simpa using h2
      have e2 : wholeB x = false := by unfold wholeB; rw [hno]; rfl
      refine Cd.seq ?_
      refine Cd.region ?_
      refine Ol.p asb ?_
      refine Ol.nil ?_
      exact Cd.ret ⟨.bool false, ret1 rfl rfl, [], Keep.nil, by rw [hbad e2], rfl⟩
    have hyes : isTerm x.term = true := by simpa using h2
    refine Cd.skip ?_
    refine Cd.region ?_
    refine Ol.p mvi ?_
    refine Ol.p addi ?_
    refine Ol.p asi ?_
    refine Ol.nil ?_
    refine ⟨f.blocks.length - (k + 1), by omega, k + 1, rfl, by omega, ?_, ⟨rfl, rfl, trivial⟩, rfl⟩
    rw [take_snoc_ hx, List.all_append, hbs]
    simp [wholeB, hyes, his]
  have hge := ge_of h
  rw [List.take_of_length_le hge] at hbs
  refine Cd.exit (id := 4) ?_
  refine Cd.seq ?_
  refine Cd.region ?_
  refine Ol.p asb ?_
  refine Ol.nil ?_
  exact Cd.ret ⟨.bool true, ret1 rfl rfl, [], Keep.nil, by rw [e, hbs], rfl⟩
end
end Go.Proofs.YtjenaenakopicaaGreat

/- The document's answer of layer 03: what is reached, walked. -/
namespace Go.Proofs.YtjenaenakopicaaGreat
set_option linter.unusedVariables false
set_option linter.unusedSimpArgs false
open Go Go.RowKit
set_option maxRecDepth 100000

theorem boolsL_put {n x : Nat} {S : Nat → Bool} {c : Bool} : (boolsL n S).set x (.bool c) = boolsL n fun i => if i = x then c else S i := by
  apply List.ext_getElem?
  intro i
  rw [List.getElem?_set]
  unfold boolsL
  by_cases h : x = i
  · subst h
    by_cases hl : x < n
    · simp [hl]
    · simp [hl]
  · have h' : ¬ i = x := fun e => h e.symm
    rw [if_neg h, List.getElem?_map, List.getElem?_map]
    by_cases hl : i < n
    · rw [List.getElem?_range hl]
      simp [h']
    · rw [List.getElem?_eq_none (by simp; omega)]
      rfl
theorem boolsL_same {n : Nat} {S T : Nat → Bool} (h : ∀ i, i < n → S i = T i) : boolsL n S = boolsL n T := by
  unfold boolsL
  apply List.map_congr_left
  intro i hi
  rw [h i (by simpa using hi)]
theorem toL_edge {f : RFun} {b j : Nat} {x : RBlk} {n : Int} (hx : f.blocks[b]? = some x) (hn : (toL x.term)[j]? = some n) : (edges f.terms)[(edgesTo f.terms b).length + j]? = some ⟨(b : Int), (j : Int), n⟩ := by
  have ht : f.terms[b]? = some x.term := by unfold RFun.terms; rw [List.getElem?_map, hx]; rfl
  exact edges_get ht hn
theorem edgesTo_next {f : RFun} {b : Nat} {x : RBlk} (hx : f.blocks[b]? = some x) : (edgesTo f.terms (b + 1)).length = (edgesTo f.terms b).length + (toL x.term).length := by
  have ht : f.terms[b]? = some x.term := by unfold RFun.terms; rw [List.getElem?_map, hx]; rfl
  rw [edgesTo_succ ht, List.length_append, edgesB_len]
section
/-- What the document's rounds reach; or an edge goes where it may not. -/
def ReachR (f : RFun) : Value → List Res → Prop := fun v R =>
  (okEs f.terms = false ∧ v = .tuple #[.slice none 0 0, .bool false] ∧ R = []) ∨
  (okEs f.terms = true ∧ ∃ A c, v = .tuple #[.slice A f.blocks.length c, .bool true] ∧ R = [row (.slice A f.blocks.length c) 4 1 f.blocks.length (boolsL f.blocks.length (iterF (passA (fun _ => true) f.terms) f.blocks.length oneB))])
set_option maxHeartbeats 4000000 in
theorem ref03_reached_ct {w : World} {f : RFun} (hf : FunAt w w.heap.size f) (hfit : Fit f) (h0 : 0 < f.blocks.length) (h200 : f.blocks.length ≤ 200) : Ct Tryz.prog 88 #[f.val] w (ReachR f) := by
  have htl : f.terms.length = f.blocks.length := by simp [RFun.terms]
  have hbad : ∀ {b j : Nat} {x : RBlk} {n : Int}, f.blocks[b]? = some x → (toL x.term)[j]? = some n → (n < 1 ∨ (f.blocks.length : Int) ≤ n) → okEs f.terms = false := fun {b j x n} hx hn hb => by
    cases hok : okEs f.terms with
    | false => rfl
    | true =>
      have ht : f.terms[b]? = some x.term := by unfold RFun.terms; rw [List.getElem?_map, hx]; rfl
      have := okEs_at hok (a := b) (n := n) (by rw [toAt_some ht]; exact List.mem_of_getElem? hn)
      omega
  refine Ct.mk Tryz.func88 rfl rfl ?_
  refine Cd.seq ?_
  refine Cd.region ?_
  refine Ol.x bxg ?_
  rintro _ _ ⟨g1, rfl, rfl⟩
  refine Ol.p ass ?_
  refine Ol.p asb ?_
  refine Ol.nil ?_
  refine Cd.seq ?_
  refine Cd.region ?_
  refine Ol.p (fdl fd_api_Func_1) ?_
  refine Ol.p (ld (v := .slice f.bA f.blocks.length f.bC) one_L_api_Block (Rd.blk (i := 0) rfl rfl)) ?_
  refine Ol.p (lens sl_L_api_Block) ?_
  refine Ol.x (mks (n := f.blocks.length) (c := f.blocks.length) sl_L_bool zr_bool) ?_
  rintro _ _ ⟨gs, rfl, rfl⟩
  refine Ol.p ass ?_
  refine Ol.nil ?_
  rw [show (madeCells (Value.bool false).cells (f.blocks.length * 1)).toList.take (f.blocks.length * 1) = boolsL f.blocks.length fun _ => false from made_bools _]
  refine Cd.seq ?_
  refine Cd.region ?_
  refine Ol.p mvs ?_
  refine Ol.p (ixn1 (ix := 0) sl_L_bool (Som.row (i := 0) rfl (by omega))) ?_
  refine Ol.s (str (i := 0) (k := 0) (v := .bool true) sz_bool rfl rfl rfl (by rw [boolsL_len]; exact h0) rfl) ?_
  refine Ol.nil ?_
  rw [show (boolsL f.blocks.length fun _ => false).set 0 (.bool true) = boolsL f.blocks.length oneB from by rw [boolsL_put]; exact boolsL_same fun i _ => by unfold oneB; by_cases h : i = 0 <;> simp [h]]
  refine Cd.seq ?_
  refine Cd.seq ?_
  refine Cd.region ?_
  refine Ol.p asi ?_
  refine Ol.nil ?_
  refine Cd.block ?_   -- 0
  refine Cd.loop (fun m σ L => ∃ r, m = f.blocks.length - r ∧ r ≤ f.blocks.length ∧ (r = 0 ∨ okEs f.terms = true) ∧ Has σ [(1, .pointer (some ⟨g1, 0, none⟩)), (4, .slice (some ⟨gs, 0, none⟩) f.blocks.length f.blocks.length), (5, .int .i64 r)] ∧ [row (.slice (some ⟨gs, 0, none⟩) f.blocks.length f.blocks.length) 4 1 f.blocks.length (boolsL f.blocks.length (iterF (passA (fun _ => true) f.terms) r oneB)), blk g1 (.cells f.cells.toArray 37)] = L) (n := f.blocks.length) ⟨0, rfl, Nat.zero_le _, .inl rfl, ⟨rfl, rfl, rfl, trivial⟩, rfl⟩ ?_
  rintro _ σ L ⟨r, rfl, hr, hrok, hs, rfl⟩
  refine Cd.has hs ?_
  clear hs
  obtain ⟨S, hS⟩ : ∃ S, S = iterF (passA (fun _ => true) f.terms) r oneB := ⟨_, rfl⟩
  rw [← hS]
  refine Cd.seq ?_
  refine Cd.seq ?_
  refine Cd.region ?_
  refine Ol.p mvi ?_
  refine Ol.p (fdl fd_api_Func_1) ?_
  refine Ol.p (ld (v := .slice f.bA f.blocks.length f.bC) one_L_api_Block (Rd.blk (i := 1) rfl rfl)) ?_
  refine Ol.p (lens sl_L_api_Block) ?_
  refine Ol.p lsi ?_
  refine Ol.nil ?_
  refine Cd.cond rfl (fun h => ?_) (fun h => ?_)   -- $19
  · have hlt := lt_of h
    refine Cd.skip ?_
    refine Cd.seq ?_
    refine Cd.block ?_   -- 1
    refine Cd.seq ?_
    refine Cd.region ?_
    refine Ol.p asi ?_
    refine Ol.nil ?_
    refine Cd.block ?_   -- 2
    refine Cd.loop (fun m σ L => ∃ b, m = f.blocks.length - b ∧ b ≤ f.blocks.length ∧ ((f.terms.take b).all fun t => (toL t).all fun n => decide (1 ≤ n) && decide (n < (f.terms.length : Int))) = true ∧ Has σ [(1, .pointer (some ⟨g1, 0, none⟩)), (4, .slice (some ⟨gs, 0, none⟩) f.blocks.length f.blocks.length), (5, .int .i64 r), (6, .int .i64 b)] ∧ [row (.slice (some ⟨gs, 0, none⟩) f.blocks.length f.blocks.length) 4 1 f.blocks.length (boolsL f.blocks.length (passM (fun _ => true) f.terms (edgesTo f.terms b).length S)), blk g1 (.cells f.cells.toArray 37)] = L) (n := f.blocks.length) ⟨0, rfl, Nat.zero_le _, rfl, ⟨rfl, rfl, rfl, rfl, trivial⟩, rfl⟩ ?_
    rintro _ σ L ⟨b, rfl, hb, hall, hs, rfl⟩
    refine Cd.has hs ?_
    clear hs
    refine Cd.seq ?_
    refine Cd.seq ?_
    refine Cd.region ?_
    refine Ol.p mvi ?_
    refine Ol.p (fdl fd_api_Func_1) ?_
    refine Ol.p (ld (v := .slice f.bA f.blocks.length f.bC) one_L_api_Block (Rd.blk (i := 1) rfl rfl)) ?_
    refine Ol.p (lens sl_L_api_Block) ?_
    refine Ol.p lsi ?_
    refine Ol.nil ?_
    refine Cd.cond rfl (fun h2 => ?_) (fun h2 => ?_)   -- $26
    · have hlt2 := lt_of h2
      obtain ⟨x, hx⟩ : ∃ x, f.blocks[b]? = some x := ⟨_, List.getElem?_eq_getElem hlt2⟩
      have ht : f.terms[b]? = some x.term := by unfold RFun.terms; rw [List.getElem?_map, hx]; rfl
      obtain ⟨to, hto⟩ : ∃ to, to = toL x.term := ⟨_, rfl⟩
      have hto2 : to.length ≤ 2 := by rw [hto]; exact toL_len _
      refine Cd.skip ?_
      refine Cd.seq ?_
      refine Cd.block ?_   -- 3
      refine Cd.seq ?_
      refine Cd.region ?_
      refine Ol.p (fdl fd_api_Func_1) ?_
      refine Ol.p (ld (v := .slice f.bA f.blocks.length f.bC) one_L_api_Block (Rd.blk (i := 1) rfl rfl)) ?_
      refine Ol.p mvi ?_
      refine Ol.p (ixn (ix := b) sl_L_api_Block (Som.slc hf.blocks (by omega))) ?_
      refine Ol.p (fdp fd_api_Block_1) ?_
      refine Ol.p (lds (es := x.term.cells) ag_api_Term hf.blocks rfl (tm_slc hx)) ?_
      refine Ol.x (sp_call (vs := [x.term.val]) (R := NewL 3 1 to.length (ints to)) en_ref03_To (fun M w' hh => hto ▸ ref03_To_ct (t := x.term))) ?_
      rintro _ _ ⟨_, rfl, A35, c35, rfl, rfl⟩
      refine Ol.p ass ?_
      refine Ol.nil ?_
      refine Cd.seq ?_
      refine Cd.region ?_
      refine Ol.p asi ?_
      refine Ol.nil ?_
      refine Cd.block ?_   -- 4
      refine Cd.loop (fun m σ L => ∃ j, m = to.length - j ∧ j ≤ to.length ∧ ((to.take j).all fun n => decide (1 ≤ n) && decide (n < (f.terms.length : Int))) = true ∧ Has σ [(1, .pointer (some ⟨g1, 0, none⟩)), (4, .slice (some ⟨gs, 0, none⟩) f.blocks.length f.blocks.length), (5, .int .i64 r), (6, .int .i64 b), (7, .slice A35 to.length c35), (8, .int .i64 j)] ∧ [row (.slice A35 to.length c35) 3 1 to.length (ints to), row (.slice (some ⟨gs, 0, none⟩) f.blocks.length f.blocks.length) 4 1 f.blocks.length (boolsL f.blocks.length (passM (fun _ => true) f.terms ((edgesTo f.terms b).length + j) S)), blk g1 (.cells f.cells.toArray 37)] = L) (n := to.length) ⟨0, rfl, Nat.zero_le _, rfl, ⟨rfl, rfl, rfl, rfl, rfl, rfl, trivial⟩, rfl⟩ ?_
      rintro _ σ L ⟨j, rfl, hj, hto3, hs, rfl⟩
      refine Cd.has hs ?_
      clear hs
      refine Cd.seq ?_
      refine Cd.seq ?_
      refine Cd.region ?_
      refine Ol.p mvi ?_
      refine Ol.p mvs ?_
      refine Ol.p (lens sl_L_int) ?_
      refine Ol.p lsi ?_
      refine Ol.nil ?_
      refine Cd.cond rfl (fun h3 => ?_) (fun h3 => ?_)   -- $39
      · have hlt3 := lt_of h3
        obtain ⟨n, hn⟩ : ∃ n, to[j]? = some n := ⟨_, List.getElem?_eq_getElem hlt3⟩
        have hnv : (ints to)[j * 1]? = some (.int .i64 n) := by simp [ints, hn]
        have hed := toL_edge hx (hto ▸ hn)
        refine Cd.skip ?_
        refine Cd.seq ?_
        refine Cd.block ?_   -- 5
        refine Cd.seq ?_
        obtain ⟨T, hT⟩ : ∃ T, T = passM (fun _ => true) f.terms ((edgesTo f.terms b).length + j) S := ⟨_, rfl⟩
        rw [← hT]
        obtain ⟨L0, hL0⟩ : ∃ L0, L0 = [row (.slice A35 to.length c35) 3 1 to.length (ints to), row (.slice (some ⟨gs, 0, none⟩) f.blocks.length f.blocks.length) 4 1 f.blocks.length (boolsL f.blocks.length T), blk g1 (.cells f.cells.toArray 37)] := ⟨_, rfl⟩
        refine Cd.mid (fun σ' L' => Has σ' [(1, .pointer (some ⟨g1, 0, none⟩)), (4, .slice (some ⟨gs, 0, none⟩) f.blocks.length f.blocks.length), (5, .int .i64 r), (6, .int .i64 b), (7, .slice A35 to.length c35), (8, .int .i64 j), (56, .bool (decide (n < 1) || decide ((f.blocks.length : Int) ≤ n)))] ∧ L0 = L') ?_ ?_
        · rw [← hL0]
          subst hL0
          cases q0 : decide (n < 1) with
          | true =>
            refine Cd.draw mixed 15 (fun _ => none) (fun _ => []) (by kernel_rfl) (fun _ _ h => by cases h) (fun u hu => ?_)
            refine Wk.p mvs ?_
            refine Wk.p mvi ?_
            refine Wk.p (ixn (ix := j) sl_L_int (Som.row (i := 0) rfl (by omega))) ?_
            refine Wk.p (ld (v := .int .i64 n) one_int (Rd.row (i := 0) rfl hnv)) ?_
            refine Wk.p lsi ?_
            refine Wk.p mvb ?_
            refine Wk.gn q0 ?_
            refine Wk.gn q0 ?_
            refine Wk.gn q0 ?_
            refine Wk.gn q0 ?_
            refine Wk.gn q0 ?_
            refine Wk.gn q0 ?_
            refine Wk.gn q0 ?_
            refine Wk.gn q0 ?_
            refine Wk.p (pkTb q0) ?_
            refine Wk.nil ?_
            refine Ol.nil ?_
            exact ⟨⟨rfl, rfl, rfl, rfl, rfl, rfl, rfl, trivial⟩, rfl⟩
          | false =>
            refine Cd.draw mixed 15 (fun _ => none) (fun _ => []) (by kernel_rfl) (fun _ _ h => by cases h) (fun u hu => ?_)
            refine Wk.p mvs ?_
            refine Wk.p mvi ?_
            refine Wk.p (ixn (ix := j) sl_L_int (Som.row (i := 0) rfl (by omega))) ?_
            refine Wk.p (ld (v := .int .i64 n) one_int (Rd.row (i := 0) rfl hnv)) ?_
            refine Wk.p lsi ?_
            refine Wk.p mvb ?_
            refine Wk.gp q0 mvs ?_
            refine Wk.gp q0 mvi ?_
            refine Wk.gp q0 (ixn (ix := j) sl_L_int (Som.row (i := 0) rfl (by omega))) ?_
            refine Wk.gp q0 (ld (v := .int .i64 n) one_int (Rd.row (i := 0) rfl hnv)) ?_
            refine Wk.gp q0 (fdl fd_api_Func_1) ?_
            refine Wk.gp q0 (ld (v := .slice f.bA f.blocks.length f.bC) one_L_api_Block (Rd.blk (i := 2) rfl rfl)) ?_
            refine Wk.gp q0 (lens sl_L_api_Block) ?_
            refine Wk.gp q0 gei ?_
            refine Wk.p (pkFb q0) ?_
            refine Wk.nil ?_
            refine Ol.nil ?_
            exact ⟨⟨rfl, rfl, rfl, rfl, rfl, rfl, rfl, trivial⟩, rfl⟩
        rintro σ' _ ⟨hs', rfl⟩
        refine Cd.has hs' ?_
        clear hs'
        refine Cd.cond rfl (fun h4 => ?_) (fun h4 => ?_)   -- $56
        · have h5 : n < 1 ∨ (f.blocks.length : Int) ≤ n := by
            rw [Bool.or_eq_true, decide_eq_true_iff, decide_eq_true_iff] at h4
            exact h4
          refine Cd.seq ?_
          refine Cd.region ?_
          refine Ol.p ass ?_
          refine Ol.p asb ?_
          refine Ol.nil ?_
          exact Cd.ret ⟨.tuple #[.slice none 0 0, .bool false], ret2 rfl rfl rfl, [], Keep.nil, .inl ⟨hbad hx (hto ▸ hn) h5, rfl, rfl⟩⟩
        have h5 : 1 ≤ n ∧ n < (f.blocks.length : Int) := by
          rw [Bool.or_eq_false_iff, decide_eq_false_iff_not, decide_eq_false_iff_not] at h4
          omega
        obtain ⟨q, hq⟩ : ∃ q : Nat, n = (q : Int) := ⟨n.toNat, by omega⟩
        have hql : q < f.blocks.length := by omega
        have hbv : (boolsL f.blocks.length T)[q * 1]? = some (.bool (T q)) := by rw [Nat.mul_one]; exact boolsL_get hql
        have hbv2 : (boolsL f.blocks.length T)[b * 1]? = some (.bool (T b)) := by rw [Nat.mul_one]; exact boolsL_get hlt2
        have hup : passM (fun _ => true) f.terms ((edgesTo f.terms b).length + (j + 1)) S = fun i => if i = q then T q || T b else T i := by
          rw [← Nat.add_assoc, passM_succ hed, ← hT]
          funext i
          unfold upE orB
          show (if i = (n).toNat then T i || (T ((b : Int).toNat) && true) else T i) = _
          rw [hq, Int.toNat_natCast, Int.toNat_natCast, Bool.and_true]
          by_cases h : i = q
          · rw [if_pos h, if_pos h, h]
          · rw [if_neg h, if_neg h]
        refine Cd.skip ?_
        subst hL0
        have hto4 : ((to.take (j + 1)).all fun n => decide (1 ≤ n) && decide (n < (f.terms.length : Int))) = true := by
          rw [take_snoc_ hn, List.all_append, hto3]
          simp [htl, h5.1, h5.2]
        cases q12 : T q with
        | true =>
          rw [q12] at hbv
          refine Cd.draw mixed 18 (fun _ => none) (fun _ => []) (by kernel_rfl) (fun _ _ h => by cases h) (fun u hu => ?_)
          refine Wk.p mvs ?_
          refine Wk.p mvs ?_
          refine Wk.p mvi ?_
          refine Wk.p (ixn (ix := j) sl_L_int (Som.row (i := 0) rfl (by omega))) ?_
          refine Wk.p (ld (v := .int .i64 n) one_int (Rd.row (i := 0) rfl hnv)) ?_
          refine Wk.p mvs ?_
          refine Wk.p mvs ?_
          refine Wk.p mvi ?_
          refine Wk.p (ixn (ix := j) sl_L_int (Som.row (i := 0) rfl (by omega))) ?_
          refine Wk.p (ld (v := .int .i64 n) one_int (Rd.row (i := 0) rfl hnv)) ?_
          refine Wk.p (ixn (ix := q) sl_L_bool (Som.row (i := 1) rfl (by omega)) (hy := congrArg (Value.int .i64) hq)) ?_
          refine Wk.p (ld (v := .bool true) one_bool (Rd.row (i := 1) rfl hbv)) ?_
          refine Wk.p mvb ?_
          refine Wk.gn rfl ?_
          refine Wk.gn rfl ?_
          refine Wk.gn rfl ?_
          refine Wk.gn rfl ?_
          refine Wk.p (pkTb rfl) ?_
          refine Wk.nil ?_
          refine Ol.p (ixn (ix := q) sl_L_bool (Som.row (i := 1) rfl (by omega)) (hy := congrArg (Value.int .i64) hq)) ?_
          refine Ol.s (str (i := 1) (k := q * 1) (v := .bool true) sz_bool rfl rfl rfl (by rw [boolsL_len]; omega) rfl) ?_
          refine Ol.nil ?_
          refine Cd.region ?_
          refine Ol.p mvi ?_
          refine Ol.p addi ?_
          refine Ol.p asi ?_
          refine Ol.nil ?_
          refine ⟨to.length - (j + 1), by omega, j + 1, rfl, by omega, hto4, ⟨rfl, rfl, rfl, rfl, rfl, rfl, trivial⟩, ?_⟩
          rw [hup, ← boolsL_put, q12, Bool.true_or, Nat.mul_one]; rfl
        | false =>
          rw [q12] at hbv
          refine Cd.draw mixed 18 (fun _ => none) (fun _ => []) (by kernel_rfl) (fun _ _ h => by cases h) (fun u hu => ?_)
          refine Wk.p mvs ?_
          refine Wk.p mvs ?_
          refine Wk.p mvi ?_
          refine Wk.p (ixn (ix := j) sl_L_int (Som.row (i := 0) rfl (by omega))) ?_
          refine Wk.p (ld (v := .int .i64 n) one_int (Rd.row (i := 0) rfl hnv)) ?_
          refine Wk.p mvs ?_
          refine Wk.p mvs ?_
          refine Wk.p mvi ?_
          refine Wk.p (ixn (ix := j) sl_L_int (Som.row (i := 0) rfl (by omega))) ?_
          refine Wk.p (ld (v := .int .i64 n) one_int (Rd.row (i := 0) rfl hnv)) ?_
          refine Wk.p (ixn (ix := q) sl_L_bool (Som.row (i := 1) rfl (by omega)) (hy := congrArg (Value.int .i64) hq)) ?_
          refine Wk.p (ld (v := .bool false) one_bool (Rd.row (i := 1) rfl hbv)) ?_
          refine Wk.p mvb ?_
          refine Wk.gp rfl mvs ?_
          refine Wk.gp rfl mvi ?_
          refine Wk.gp rfl (ixn (ix := b) sl_L_bool (Som.row (i := 1) rfl (by omega))) ?_
          refine Wk.gp rfl (ld (v := .bool (T b)) one_bool (Rd.row (i := 1) rfl hbv2)) ?_
          refine Wk.p (pkFb rfl) ?_
          refine Wk.nil ?_
          refine Ol.p (ixn (ix := q) sl_L_bool (Som.row (i := 1) rfl (by omega)) (hy := congrArg (Value.int .i64) hq)) ?_
          refine Ol.s (str (i := 1) (k := q * 1) (v := .bool (T b)) sz_bool rfl rfl rfl (by rw [boolsL_len]; omega) rfl) ?_
          refine Ol.nil ?_
          refine Cd.region ?_
          refine Ol.p mvi ?_
          refine Ol.p addi ?_
          refine Ol.p asi ?_
          refine Ol.nil ?_
          refine ⟨to.length - (j + 1), by omega, j + 1, rfl, by omega, hto4, ⟨rfl, rfl, rfl, rfl, rfl, rfl, trivial⟩, ?_⟩
          rw [hup, ← boolsL_put, q12, Bool.false_or, Nat.mul_one]; rfl
      have hge3 := ge_of h3
      have hje : j = to.length := by omega
      rw [List.take_of_length_le hge3] at hto3
      rw [hje, hto, ← edgesTo_next hx]
      refine Cd.exit (id := 4) ?_
      refine Cd.keep (.sub (.cons _ (List.Sublist.refl _))) ?_
      refine Cd.region ?_
      refine Ol.p mvi ?_
      refine Ol.p addi ?_
      refine Ol.p asi ?_
      refine Ol.nil ?_
      refine ⟨f.blocks.length - (b + 1), by omega, b + 1, rfl, by omega, ?_, ⟨rfl, rfl, rfl, rfl, trivial⟩, rfl⟩
      rw [take_snoc_ ht, List.all_append, hall, Bool.true_and]
      show ((toL x.term).all _ && true) = true
      rw [Bool.and_true, ← hto]
      exact hto3
    have hge2 := ge_of h2
    have hbe : b = f.blocks.length := by omega
    have hok : okEs f.terms = true := by
      unfold okEs
      rw [hbe, ← htl, List.take_length] at hall
      exact hall
    have hpe : passM (fun _ => true) f.terms (edgesTo f.terms b).length S = iterF (passA (fun _ => true) f.terms) (r + 1) oneB := by
      rw [hbe, ← htl]
      show passA (fun _ => true) f.terms S = passA (fun _ => true) f.terms (iterF (passA (fun _ => true) f.terms) r oneB)
      rw [hS]
    rw [hpe]
    refine Cd.exit (id := 2) ?_
    refine Cd.region ?_
    refine Ol.p mvi ?_
    refine Ol.p addi ?_
    refine Ol.p asi ?_
    refine Ol.nil ?_
    exact ⟨f.blocks.length - (r + 1), by omega, r + 1, rfl, by omega, .inr hok, ⟨rfl, rfl, rfl, trivial⟩, rfl⟩
  have hge := ge_of h
  have hre : r = f.blocks.length := by omega
  have hok : okEs f.terms = true := hrok.resolve_left (by omega)
  rw [hS, hre]
  refine Cd.exit (id := 0) ?_
  refine Cd.seq ?_
  refine Cd.region ?_
  refine Ol.p mvs ?_
  refine Ol.p ass ?_
  refine Ol.p asb ?_
  refine Ol.nil ?_
  exact Cd.ret ⟨.tuple #[.slice (some ⟨gs, 0, none⟩) f.blocks.length f.blocks.length, .bool true], ret2 rfl rfl rfl, _, .sub (.cons_cons _ (.cons _ .slnil)), .inr ⟨hok, some ⟨gs, 0, none⟩, f.blocks.length, rfl, rfl⟩⟩
end
end Go.Proofs.YtjenaenakopicaaGreat

/- The document's answer of layer 03: whether a variable may lack a value, walked. -/
namespace Go.Proofs.YtjenaenakopicaaGreat
set_option linter.unusedVariables false
set_option linter.unusedSimpArgs false
open Go Go.RowKit
set_option maxRecDepth 100000

theorem boolsL_at {n i : Nat} {S : Nat → Bool} (h : i < n) : (boolsL n S)[i * 1]? = some (.bool (S i)) := by rw [Nat.mul_one]; exact boolsL_get h
theorem ints_at1 {l : List Int} {i : Nat} {n : Int} (h : l[i]? = some n) : (ints l)[i * 1]? = some (.int .i64 n) := by simp [ints, h]
theorem exposed_drop {l : List RIns} {j : Nat} {i : RIns} {t : Tm} {v : Int} (h : l[j]? = some i) : exposed (l.drop j) t v = ((readsL i).contains v || (!decide (defI i = v) && exposed (l.drop (j + 1)) t v)) := by
  obtain ⟨hl, he⟩ := List.getElem?_eq_some_iff.1 h
  rw [List.drop_eq_getElem_cons hl, he]
  rfl
theorem needs_one (t : Tm) : needsL t = [] ∨ needsL t = [t.a] := by
  unfold needsL
  cases isTerm t && !decide (t.a = 0)
  · exact .inl rfl
  · exact .inr rfl
section
set_option maxHeartbeats 8000000 in
theorem ref03_lacks_ct {w : World} {f : RFun} {v : Int} (hf : FunAt w w.heap.size f) (hfit : Fit f) (hc : closed f.terms = true) (hp : ∀ p ∈ f.params, 1 ≤ p) (hv : 1 ≤ v) (hw8 : ∀ x ∈ f.blocks, ∀ i ∈ x.ins, (readsL i).length ≤ 10) : Ct Tryz.prog 89 #[f.val, .int .i64 v] w (Is (.bool (lacksB f v))) := by
  have htl : f.terms.length = f.blocks.length := by simp [RFun.terms]
  have h0 : 0 < f.blocks.length := by have := (closed_len hc).1; omega
  have h200 : f.blocks.length ≤ 200 := by have := (closed_len hc).2.1; omega
  have hpl := hfit.plen
  obtain ⟨F, hF⟩ : ∃ F, F = passA (bareP f v) f.terms := ⟨_, rfl⟩
  have hyes : ∀ {m r b : Nat} {x : RBlk}, f.blocks[b]? = some x → exposed x.ins x.term v = true → passM (bareP f v) f.terms m (iterF F r (openB f v)) b = true → lacksB f v = true := fun {m r b x} hx he hs => by
    rw [lacksB_iff]
    exact ⟨b, x, hx, he, open_sound hc hv hp m r b (hF ▸ hs)⟩
  refine Ct.mk Tryz.func89 rfl rfl ?_
  refine Cd.seq ?_
  refine Cd.region ?_
  refine Ol.x bxg ?_
  rintro _ _ ⟨g2, rfl, rfl⟩
  refine Ol.p asb ?_
  refine Ol.nil ?_
  refine Cd.seq ?_
  refine Cd.region ?_
  refine Ol.p (fdl fd_api_Func_1) ?_
  refine Ol.p (ld (v := .slice f.bA f.blocks.length f.bC) one_L_api_Block (Rd.blk (i := 0) rfl rfl)) ?_
  refine Ol.p (lens sl_L_api_Block) ?_
  refine Ol.x (mks (n := f.blocks.length) (c := f.blocks.length) sl_L_bool zr_bool) ?_
  rintro _ _ ⟨gs, rfl, rfl⟩
  refine Ol.p ass ?_
  refine Ol.nil ?_
  rw [show (madeCells (Value.bool false).cells (f.blocks.length * 1)).toList.take (f.blocks.length * 1) = boolsL f.blocks.length fun _ => false from made_bools _]
  refine Cd.seq ?_
  refine Cd.region ?_
  refine Ol.p mvs ?_
  refine Ol.p (ixn1 (ix := 0) sl_L_bool (Som.row (i := 0) rfl (by omega))) ?_
  refine Ol.s (str (i := 0) (k := 0) (v := .bool true) sz_bool rfl rfl rfl (by rw [boolsL_len]; exact h0) rfl) ?_
  refine Ol.nil ?_
  rw [show (boolsL f.blocks.length fun _ => false).set 0 (.bool true) = boolsL f.blocks.length fun i => decide (i = 0) && !(f.params.take 0).contains v from by rw [boolsL_put]; exact boolsL_same fun i _ => by by_cases h : i = 0 <;> simp [h]]
  refine Cd.mid (fun σ' L' => Has σ' [(1, .int .i64 v), (2, .pointer (some ⟨g2, 0, none⟩)), (5, .slice (some ⟨gs, 0, none⟩) f.blocks.length f.blocks.length)] ∧ [row (.slice (some ⟨gs, 0, none⟩) f.blocks.length f.blocks.length) 4 1 f.blocks.length (boolsL f.blocks.length (openB f v)), blk g2 (.cells f.cells.toArray 37)] = L') ?_ ?_
  · refine Cd.seq ?_
    refine Cd.region ?_
    refine Ol.p asi ?_
    refine Ol.nil ?_
    refine Cd.block ?_   -- 0
    refine Cd.loop (fun m σ L => ∃ k, m = f.params.length - k ∧ k ≤ f.params.length ∧ Has σ [(1, .int .i64 v), (2, .pointer (some ⟨g2, 0, none⟩)), (5, .slice (some ⟨gs, 0, none⟩) f.blocks.length f.blocks.length), (6, .int .i64 k)] ∧ [row (.slice (some ⟨gs, 0, none⟩) f.blocks.length f.blocks.length) 4 1 f.blocks.length (boolsL f.blocks.length fun i => decide (i = 0) && !(f.params.take k).contains v), blk g2 (.cells f.cells.toArray 37)] = L) (n := f.params.length) ⟨0, rfl, Nat.zero_le _, ⟨rfl, rfl, rfl, rfl, trivial⟩, rfl⟩ ?_
    rintro _ σ L ⟨k, rfl, hk, hs, rfl⟩
    refine Cd.has hs ?_
    clear hs
    refine Cd.seq ?_
    refine Cd.seq ?_
    refine Cd.region ?_
    refine Ol.p mvi ?_
    refine Ol.p (fdl fd_api_Func_0) ?_
    refine Ol.p (ld (v := .slice f.pA f.params.length f.pC) one_L_int (Rd.blk (i := 1) rfl rfl)) ?_
    refine Ol.p (lens sl_L_int) ?_
    refine Ol.p lsi ?_
    refine Ol.nil ?_
    refine Cd.cond rfl (fun h => ?_) (fun h => ?_)   -- $27
    · have hlt := lt_of h
      obtain ⟨n, hn⟩ : ∃ n, f.params[k]? = some n := ⟨_, List.getElem?_eq_getElem hlt⟩
      have hcon : (f.params.take (k + 1)).contains v = ((f.params.take k).contains v || decide (n = v)) := by
        rw [take_snoc_ hn, Bool.eq_iff_iff, List.contains_iff_mem, List.mem_append, List.mem_singleton, Bool.or_eq_true, List.contains_iff_mem, decide_eq_true_iff]
        exact or_congr Iff.rfl ⟨fun h => h.symm, fun h => h.symm⟩
      refine Cd.skip ?_
      refine Cd.mid (fun σ' L' => Has σ' [(1, .int .i64 v), (2, .pointer (some ⟨g2, 0, none⟩)), (5, .slice (some ⟨gs, 0, none⟩) f.blocks.length f.blocks.length), (6, .int .i64 k)] ∧ [row (.slice (some ⟨gs, 0, none⟩) f.blocks.length f.blocks.length) 4 1 f.blocks.length (boolsL f.blocks.length fun i => decide (i = 0) && !(f.params.take (k + 1)).contains v), blk g2 (.cells f.cells.toArray 37)] = L') ?_ ?_
      · refine Cd.block ?_   -- 1
        refine Cd.seq ?_
        refine Cd.region ?_
        refine Ol.p (fdl fd_api_Func_0) ?_
        refine Ol.p (ld (v := .slice f.pA f.params.length f.pC) one_L_int (Rd.blk (i := 1) rfl rfl)) ?_
        refine Ol.p mvi ?_
        refine Ol.p (ixn (ix := k) sl_L_int (Som.slc hf.params (by omega))) ?_
        refine Ol.p (ld (v := .int .i64 n) one_int (Rd.slc hf.params (ints_at1 hn))) ?_
        refine Ol.p mvi ?_
        refine Ol.p eqi ?_
        refine Ol.nil ?_
        refine Cd.cond rfl (fun h2 => ?_) (fun h2 => ?_)   -- $36
        · skip
          refine Cd.region ?_
          refine Ol.p mvs ?_
          refine Ol.p (ixn1 (ix := 0) sl_L_bool (Som.row (i := 0) rfl (by omega))) ?_
          refine Ol.s (str (i := 0) (k := 0) (v := .bool false) sz_bool rfl rfl rfl (by rw [boolsL_len]; exact h0) rfl) ?_
          refine Ol.nil ?_
          refine ⟨⟨rfl, rfl, rfl, rfl, trivial⟩, ?_⟩
          rw [show (boolsL f.blocks.length fun i => decide (i = 0) && !(f.params.take (k + 1)).contains v) = (boolsL f.blocks.length fun i => decide (i = 0) && !(f.params.take k).contains v).set 0 (.bool false) from by
            rw [boolsL_put]
            exact boolsL_same fun i _ => by
              have h2 : decide (n = v) = true := h2
              by_cases h : i = 0 <;> simp only [hcon, h2, h, Bool.or_true, Bool.not_true, Bool.and_false, decide_false, Bool.false_and, if_true, if_false]]
          rfl
        refine Cd.skip ?_
        refine ⟨⟨rfl, rfl, rfl, rfl, trivial⟩, ?_⟩
        have h2 : decide (n = v) = false := h2
        simp only [hcon, h2, Bool.or_false]
      rintro σ' _ ⟨hs', rfl⟩
      refine Cd.has hs' ?_
      clear hs'
      refine Cd.region ?_
      refine Ol.p mvi ?_
      refine Ol.p addi ?_
      refine Ol.p asi ?_
      refine Ol.nil ?_
      exact ⟨f.params.length - (k + 1), by omega, k + 1, rfl, by omega, ⟨rfl, rfl, rfl, rfl, trivial⟩, rfl⟩
    have hge := ge_of h
    rw [List.take_of_length_le hge]
    refine Cd.exit (id := 0) ?_
    exact ⟨⟨rfl, rfl, rfl, trivial⟩, rfl⟩
  rintro σ' _ ⟨hs', rfl⟩
  refine Cd.has hs' ?_
  clear hs'
  refine Cd.seq ?_
  refine Cd.seq ?_
  refine Cd.region ?_
  refine Ol.p asi ?_
  refine Ol.nil ?_
  refine Cd.block ?_   -- 2
  refine Cd.loop (fun m σ L => ∃ r, m = f.blocks.length - r ∧ r ≤ f.blocks.length ∧ (1 ≤ r → ∀ b x, f.blocks[b]? = some x → iterF F (r - 1) (openB f v) b = true → exposed x.ins x.term v = false) ∧ Has σ [(1, .int .i64 v), (2, .pointer (some ⟨g2, 0, none⟩)), (5, .slice (some ⟨gs, 0, none⟩) f.blocks.length f.blocks.length), (7, .int .i64 r)] ∧ [row (.slice (some ⟨gs, 0, none⟩) f.blocks.length f.blocks.length) 4 1 f.blocks.length (boolsL f.blocks.length (iterF F r (openB f v))), blk g2 (.cells f.cells.toArray 37)] = L) (n := f.blocks.length) ⟨0, rfl, Nat.zero_le _, (fun h => by omega), ⟨rfl, rfl, rfl, rfl, trivial⟩, rfl⟩ ?_
  rintro _ σ L ⟨r, rfl, hr, hrec, hs, rfl⟩
  refine Cd.has hs ?_
  clear hs
  obtain ⟨S, hS⟩ : ∃ S, S = iterF F r (openB f v) := ⟨_, rfl⟩
  rw [← hS]
  refine Cd.seq ?_
  refine Cd.seq ?_
  refine Cd.region ?_
  refine Ol.p mvi ?_
  refine Ol.p (fdl fd_api_Func_1) ?_
  refine Ol.p (ld (v := .slice f.bA f.blocks.length f.bC) one_L_api_Block (Rd.blk (i := 1) rfl rfl)) ?_
  refine Ol.p (lens sl_L_api_Block) ?_
  refine Ol.p lsi ?_
  refine Ol.nil ?_
  refine Cd.cond rfl (fun h => ?_) (fun h => ?_)   -- $43
  · have hlt := lt_of h
    refine Cd.skip ?_
    refine Cd.seq ?_
    refine Cd.block ?_   -- 3
    refine Cd.seq ?_
    refine Cd.region ?_
    refine Ol.p asi ?_
    refine Ol.nil ?_
    refine Cd.block ?_   -- 4
    refine Cd.loop (fun m σ L => ∃ b, m = f.blocks.length - b ∧ b ≤ f.blocks.length ∧ (∀ b' x, b' < b → f.blocks[b']? = some x → S b' = true → exposed x.ins x.term v = false) ∧ Has σ [(1, .int .i64 v), (2, .pointer (some ⟨g2, 0, none⟩)), (5, .slice (some ⟨gs, 0, none⟩) f.blocks.length f.blocks.length), (7, .int .i64 r), (8, .int .i64 b)] ∧ [row (.slice (some ⟨gs, 0, none⟩) f.blocks.length f.blocks.length) 4 1 f.blocks.length (boolsL f.blocks.length (passM (bareP f v) f.terms (edgesTo f.terms b).length S)), blk g2 (.cells f.cells.toArray 37)] = L) (n := f.blocks.length) ⟨0, rfl, Nat.zero_le _, (fun _ _ h => by omega), ⟨rfl, rfl, rfl, rfl, rfl, trivial⟩, rfl⟩ ?_
    rintro _ σ L ⟨b, rfl, hb, hbs, hs, rfl⟩
    refine Cd.has hs ?_
    clear hs
    refine Cd.seq ?_
    refine Cd.seq ?_
    refine Cd.region ?_
    refine Ol.p mvi ?_
    refine Ol.p (fdl fd_api_Func_1) ?_
    refine Ol.p (ld (v := .slice f.bA f.blocks.length f.bC) one_L_api_Block (Rd.blk (i := 1) rfl rfl)) ?_
    refine Ol.p (lens sl_L_api_Block) ?_
    refine Ol.p lsi ?_
    refine Ol.nil ?_
    refine Cd.cond rfl (fun h2 => ?_) (fun h2 => ?_)   -- $50
    · have hlt2 := lt_of h2
      obtain ⟨x, hx⟩ : ∃ x, f.blocks[b]? = some x := ⟨_, List.getElem?_eq_getElem hlt2⟩
      have hxm := List.mem_of_getElem? hx
      have hxl := hfit.ilen x hxm
      have hlx : f.terms[b]? = some x.term := by unfold RFun.terms; rw [List.getElem?_map, hx]; rfl
      obtain ⟨T, hT⟩ : ∃ T, T = passM (bareP f v) f.terms (edgesTo f.terms b).length S := ⟨_, rfl⟩
      have hyesT : exposed x.ins x.term v = true → T b = true → lacksB f v = true := fun he hTb => hyes hx he (by rw [← hS, ← hT]; exact hTb)
      rw [← hT]
      refine Cd.skip ?_
      refine Cd.seq ?_
      refine Cd.block ?_   -- 5
      refine Cd.seq ?_
      refine Cd.region ?_
      refine Ol.p mvs ?_
      refine Ol.p mvi ?_
      refine Ol.p (ixn (ix := b) sl_L_bool (Som.row (i := 0) rfl (by omega))) ?_
      refine Ol.p (ld (v := .bool (T b)) one_bool (Rd.row (i := 0) rfl (boolsL_at hlt2))) ?_
      refine Ol.p asb ?_
      refine Ol.nil ?_
      refine Cd.mid (fun σ' L' => (T b = true → exposed x.ins x.term v = ((T b && bareP f v b) && (needsL x.term).contains v)) ∧ Has σ' [(1, .int .i64 v), (2, .pointer (some ⟨g2, 0, none⟩)), (5, .slice (some ⟨gs, 0, none⟩) f.blocks.length f.blocks.length), (7, .int .i64 r), (8, .int .i64 b), (9, .bool (T b && bareP f v b))] ∧ [row (.slice (some ⟨gs, 0, none⟩) f.blocks.length f.blocks.length) 4 1 f.blocks.length (boolsL f.blocks.length T), blk g2 (.cells f.cells.toArray 37)] = L') ?_ ?_
      · refine Cd.seq ?_
        refine Cd.region ?_
        refine Ol.p asi ?_
        refine Ol.nil ?_
        refine Cd.block ?_   -- 6
        refine Cd.loop (fun m σ L => ∃ j bj, m = x.ins.length - j ∧ j ≤ x.ins.length ∧ bj = (T b && (x.ins.take j).all fun i => !decide (defI i = v)) ∧ (T b = true → exposed x.ins x.term v = (bj && exposed (x.ins.drop j) x.term v)) ∧ Has σ [(1, .int .i64 v), (2, .pointer (some ⟨g2, 0, none⟩)), (5, .slice (some ⟨gs, 0, none⟩) f.blocks.length f.blocks.length), (7, .int .i64 r), (8, .int .i64 b), (9, .bool bj), (10, .int .i64 j)] ∧ [row (.slice (some ⟨gs, 0, none⟩) f.blocks.length f.blocks.length) 4 1 f.blocks.length (boolsL f.blocks.length T), blk g2 (.cells f.cells.toArray 37)] = L) (n := x.ins.length) ⟨0, T b, rfl, Nat.zero_le _, by simp, (fun h => by rw [h]; simp), ⟨rfl, rfl, rfl, rfl, rfl, rfl, rfl, trivial⟩, rfl⟩ ?_
        rintro _ σ L ⟨j, bj, rfl, hj, hbj, hexp, hs, rfl⟩
        refine Cd.has hs ?_
        clear hs
        refine Cd.seq ?_
        refine Cd.seq ?_
        refine Cd.region ?_
        refine Ol.p mvi ?_
        refine Ol.p (fdl fd_api_Func_1) ?_
        refine Ol.p (ld (v := .slice f.bA f.blocks.length f.bC) one_L_api_Block (Rd.blk (i := 1) rfl rfl)) ?_
        refine Ol.p mvi ?_
        refine Ol.p (ixn (ix := b) sl_L_api_Block (Som.slc hf.blocks (by omega))) ?_
        refine Ol.p (fdp fd_api_Block_0) ?_
        refine Ol.p (ld (v := .slice x.iA x.ins.length x.iC) one_L_api_Ins (Rd.slc hf.blocks (ins_slc hx))) ?_
        refine Ol.p (lens sl_L_api_Ins) ?_
        refine Ol.p lsi ?_
        refine Ol.nil ?_
        refine Cd.cond rfl (fun h3 => ?_) (fun h3 => ?_)   -- $65
        · have hlt3 := lt_of h3
          obtain ⟨i, hi⟩ : ∃ i, x.ins[j]? = some i := ⟨_, List.getElem?_eq_getElem hlt3⟩
          have him := List.mem_of_getElem? hi
          have hial := hfit.alen x hxm i him
          have hil := hw8 x hxm i him
          obtain ⟨rl, hrl⟩ : ∃ rl, rl = readsL i := ⟨_, rfl⟩
          have hdr := exposed_drop (t := x.term) (v := v) hi
          rw [← hrl] at hil hdr
          refine Cd.skip ?_
          refine Cd.seq ?_
          refine Cd.block ?_   -- 7
          refine Cd.seq ?_
          refine Cd.region ?_
          refine Ol.p (fdl fd_api_Func_1) ?_
          refine Ol.p (ld (v := .slice f.bA f.blocks.length f.bC) one_L_api_Block (Rd.blk (i := 1) rfl rfl)) ?_
          refine Ol.p mvi ?_
          refine Ol.p (ixn (ix := b) sl_L_api_Block (Som.slc hf.blocks (by omega))) ?_
          refine Ol.p (fdp fd_api_Block_0) ?_
          refine Ol.p (ld (v := .slice x.iA x.ins.length x.iC) one_L_api_Ins (Rd.slc hf.blocks (ins_slc hx))) ?_
          refine Ol.p mvi ?_
          refine Ol.p (ixn (ix := j) sl_L_api_Ins (Som.slc (hf.ins x hxm) (by omega))) ?_
          refine Ol.p (lds (es := i.cells) ag_api_Ins (hf.ins x hxm) i.len (fun q u hu => ins_cell hi hu)) ?_
          refine Ol.x (alc zr_api_Ins) ?_
          rintro _ _ ⟨g11, rfl, rfl⟩
          refine Ol.s (stw (vs := i.cells.toArray) sz_api_Ins rfl i.one (i := 0) rfl rfl) ?_
          refine Ol.nil ?_
          refine Cd.seq ?_
          refine Cd.region ?_
          refine Ol.p (ldw (cs := i.cells.toArray) ag_api_Ins (i := 0) rfl rfl) ?_
          refine Ol.x (sp_call (vs := [i.val]) (R := NewL 3 1 rl.length (ints rl)) en_ref03_Reads (fun M w' hh => hrl ▸ ref03_Reads_ct ((hf.args x hxm i him).now hh) (by omega))) ?_
          rintro _ _ ⟨_, rfl, A78, c78, rfl, rfl⟩
          refine Ol.p ass ?_
          refine Ol.nil ?_
          refine Cd.mid (fun σ' L' => (bj = true → rl.contains v = false) ∧ Has σ' [(1, .int .i64 v), (2, .pointer (some ⟨g2, 0, none⟩)), (5, .slice (some ⟨gs, 0, none⟩) f.blocks.length f.blocks.length), (7, .int .i64 r), (8, .int .i64 b), (9, .bool bj), (10, .int .i64 j), (11, .pointer (some ⟨g11, 0, none⟩))] ∧ [blk g11 (.cells i.cells.toArray 25), row (.slice (some ⟨gs, 0, none⟩) f.blocks.length f.blocks.length) 4 1 f.blocks.length (boolsL f.blocks.length T), blk g2 (.cells f.cells.toArray 37)] = L') ?_ ?_
          · refine Cd.seq ?_
            refine Cd.region ?_
            refine Ol.p asi ?_
            refine Ol.nil ?_
            refine Cd.block ?_   -- 8
            refine Cd.loop (fun m σ L => ∃ q, m = rl.length - q ∧ q ≤ rl.length ∧ (bj = true → (rl.take q).contains v = false) ∧ Has σ [(1, .int .i64 v), (2, .pointer (some ⟨g2, 0, none⟩)), (5, .slice (some ⟨gs, 0, none⟩) f.blocks.length f.blocks.length), (7, .int .i64 r), (8, .int .i64 b), (9, .bool bj), (10, .int .i64 j), (11, .pointer (some ⟨g11, 0, none⟩)), (12, .slice A78 rl.length c78), (13, .int .i64 q)] ∧ [row (.slice A78 rl.length c78) 3 1 rl.length (ints rl), blk g11 (.cells i.cells.toArray 25), row (.slice (some ⟨gs, 0, none⟩) f.blocks.length f.blocks.length) 4 1 f.blocks.length (boolsL f.blocks.length T), blk g2 (.cells f.cells.toArray 37)] = L) (n := rl.length) ⟨0, rfl, Nat.zero_le _, (fun _ => rfl), ⟨rfl, rfl, rfl, rfl, rfl, rfl, rfl, rfl, rfl, rfl, trivial⟩, rfl⟩ ?_
            rintro _ σ L ⟨q, rfl, hq, hqn, hs, rfl⟩
            refine Cd.has hs ?_
            clear hs
            refine Cd.seq ?_
            refine Cd.seq ?_
            refine Cd.region ?_
            refine Ol.p mvi ?_
            refine Ol.p mvs ?_
            refine Ol.p (lens sl_L_int) ?_
            refine Ol.p lsi ?_
            refine Ol.nil ?_
            refine Cd.cond rfl (fun h4 => ?_) (fun h4 => ?_)   -- $82
            · have hlt4 := lt_of h4
              obtain ⟨n, hn⟩ : ∃ n, rl[q]? = some n := ⟨_, List.getElem?_eq_getElem hlt4⟩
              have hcon : (rl.take (q + 1)).contains v = ((rl.take q).contains v || decide (n = v)) := by
                rw [take_snoc_ hn, Bool.eq_iff_iff, List.contains_iff_mem, List.mem_append, List.mem_singleton, Bool.or_eq_true, List.contains_iff_mem, decide_eq_true_iff]
                exact or_congr Iff.rfl ⟨fun h => h.symm, fun h => h.symm⟩
              refine Cd.skip ?_
              refine Cd.seq ?_
              refine Cd.block ?_   -- 9
              refine Cd.mid (fun σ' L' => Has σ' [(1, .int .i64 v), (2, .pointer (some ⟨g2, 0, none⟩)), (5, .slice (some ⟨gs, 0, none⟩) f.blocks.length f.blocks.length), (7, .int .i64 r), (8, .int .i64 b), (9, .bool bj), (10, .int .i64 j), (11, .pointer (some ⟨g11, 0, none⟩)), (12, .slice A78 rl.length c78), (13, .int .i64 q), (93, .bool (decide (n = v) && bj))] ∧ [row (.slice A78 rl.length c78) 3 1 rl.length (ints rl), blk g11 (.cells i.cells.toArray 25), row (.slice (some ⟨gs, 0, none⟩) f.blocks.length f.blocks.length) 4 1 f.blocks.length (boolsL f.blocks.length T), blk g2 (.cells f.cells.toArray 37)] = L') ?_ ?_
              · cases q0 : decide (n = v) with
                | true =>
                  refine Cd.region ?_
                  refine Ol.p mvs ?_
                  refine Ol.p mvi ?_
                  refine Ol.p (ixn (ix := q) sl_L_int (Som.row (i := 0) rfl (by omega))) ?_
                  refine Ol.p (ld (v := .int .i64 n) one_int (Rd.row (i := 0) rfl (ints_at1 hn))) ?_
                  refine Ol.p mvi ?_
                  refine Ol.p eqi ?_
                  refine Ol.p mvb ?_
                  refine Ol.gp q0 mvb ?_
                  refine Ol.p (pkTb q0) ?_
                  refine Ol.nil ?_
                  exact ⟨⟨rfl, rfl, rfl, rfl, rfl, rfl, rfl, rfl, rfl, rfl, rfl, trivial⟩, rfl⟩
                | false =>
                  refine Cd.region ?_
                  refine Ol.p mvs ?_
                  refine Ol.p mvi ?_
                  refine Ol.p (ixn (ix := q) sl_L_int (Som.row (i := 0) rfl (by omega))) ?_
                  refine Ol.p (ld (v := .int .i64 n) one_int (Rd.row (i := 0) rfl (ints_at1 hn))) ?_
                  refine Ol.p mvi ?_
                  refine Ol.p eqi ?_
                  refine Ol.p mvb ?_
                  refine Ol.gn q0 ?_
                  refine Ol.p (pkFb q0) ?_
                  refine Ol.nil ?_
                  exact ⟨⟨rfl, rfl, rfl, rfl, rfl, rfl, rfl, rfl, rfl, rfl, rfl, trivial⟩, rfl⟩
              rintro σ' _ ⟨hs', rfl⟩
              refine Cd.has hs' ?_
              clear hs'
              refine Cd.cond rfl (fun h5 => ?_) (fun h5 => ?_)   -- $93
              · rw [Bool.and_eq_true, decide_eq_true_iff] at h5
                obtain ⟨hnv, hbt⟩ := h5
                have hTb : T b = true := by
                  rw [hbt] at hbj
                  exact (Bool.and_eq_true_iff.1 hbj.symm).1
                have hex : exposed x.ins x.term v = true := by
                  rw [hexp hTb, hbt, hdr, List.contains_iff_mem.2 (hnv ▸ List.mem_of_getElem? hn)]
                  rfl
                refine Cd.seq ?_
                refine Cd.region ?_
                refine Ol.p asb ?_
                refine Ol.nil ?_
                exact Cd.ret ⟨.bool true, ret1 rfl rfl, [], Keep.nil, by rw [hyesT hex hTb], rfl⟩
              refine Cd.skip ?_
              refine Cd.region ?_
              refine Ol.p mvi ?_
              refine Ol.p addi ?_
              refine Ol.p asi ?_
              refine Ol.nil ?_
              refine ⟨rl.length - (q + 1), by omega, q + 1, rfl, by omega, fun hbt => ?_, ⟨rfl, rfl, rfl, rfl, rfl, rfl, rfl, rfl, rfl, rfl, trivial⟩, rfl⟩
              rw [hbt, Bool.and_true] at h5
              rw [hcon, hqn hbt, h5]
              rfl
            have hge4 := ge_of h4
            rw [List.take_of_length_le hge4] at hqn
            refine Cd.keep (.sub (.cons _ (List.Sublist.refl _))) ?_
            refine Cd.exit (id := 8) ?_
            exact ⟨hqn, ⟨rfl, rfl, rfl, rfl, rfl, rfl, rfl, rfl, trivial⟩, rfl⟩
          rintro σ' _ ⟨hqn, hs', rfl⟩
          refine Cd.has hs' ?_
          clear hs'
          have hall : ((x.ins.take (j + 1)).all fun i => !decide (defI i = v)) = (((x.ins.take j).all fun i => !decide (defI i = v)) && !decide (defI i = v)) := by
            rw [take_snoc_ hi, List.all_append]
            simp
          have hnew : T b = true → exposed x.ins x.term v = ((bj && !decide (defI i = v)) && exposed (x.ins.drop (j + 1)) x.term v) := fun hTb => by
            rw [hexp hTb, hdr]
            cases hbt : bj with
            | false => rfl
            | true => rw [hqn hbt]; simp
          cases q1 : bj with
          | true =>
            rw [q1] at hnew hbj
            refine Cd.region ?_
            refine Ol.p mvb ?_
            refine Ol.p mvb ?_
            refine Ol.gp rfl (ldw (cs := i.cells.toArray) ag_api_Ins (i := 0) rfl rfl) ?_
            refine Ol.gs rfl (cl (v := .int .i64 (defI i)) en_ref03_Defines (fun M w' hh => ref03_Defines_ct ((hf.args x hxm i him).now hh) (by omega))) ?_
            refine Ol.gp rfl mvi ?_
            refine Ol.gp rfl nei ?_
            refine Ol.p (pkTb rfl) ?_
            refine Ol.p asb ?_
            refine Ol.nil ?_
            refine Cd.region ?_
            refine Ol.p mvi ?_
            refine Ol.p addi ?_
            refine Ol.p asi ?_
            refine Ol.keep (.sub (.cons _ (List.Sublist.refl _))) ?_
            refine Ol.nil ?_
            refine ⟨x.ins.length - (j + 1), by omega, j + 1, !decide (defI i = v), rfl, by omega, ?_, (fun hTb => by rw [hnew hTb, Bool.true_and]), ⟨rfl, rfl, rfl, rfl, rfl, rfl, rfl, trivial⟩, rfl⟩
            rw [hall, ← Bool.and_assoc, ← hbj]
            simp
          | false =>
            rw [q1] at hnew hbj
            refine Cd.region ?_
            refine Ol.p mvb ?_
            refine Ol.p mvb ?_
            refine Ol.gn rfl ?_
            refine Ol.gn rfl ?_
            refine Ol.gn rfl ?_
            refine Ol.gn rfl ?_
            refine Ol.p (pkFb rfl) ?_
            refine Ol.p asb ?_
            refine Ol.nil ?_
            refine Cd.region ?_
            refine Ol.p mvi ?_
            refine Ol.p addi ?_
            refine Ol.p asi ?_
            refine Ol.keep (.sub (.cons _ (List.Sublist.refl _))) ?_
            refine Ol.nil ?_
            refine ⟨x.ins.length - (j + 1), by omega, j + 1, false, rfl, by omega, ?_, (fun hTb => by rw [hnew hTb]; rfl), ⟨rfl, rfl, rfl, rfl, rfl, rfl, rfl, trivial⟩, rfl⟩
            rw [hall, ← Bool.and_assoc, ← hbj]
            rfl
        have hge3 := ge_of h3
        have hbP : bareP f v b = x.ins.all fun i => !decide (defI i = v) := by unfold bareP; rw [hx]
        rw [List.take_of_length_le hge3, ← hbP] at hbj
        rw [List.drop_of_length_le hge3] at hexp
        refine Cd.exit (id := 6) ?_
        rw [hbj]
        refine ⟨fun hTb => ?_, ⟨rfl, rfl, rfl, rfl, rfl, rfl, trivial⟩, rfl⟩
        rw [hexp hTb, hbj]
        rfl
      rintro σ' _ ⟨hexp, hs', rfl⟩
      refine Cd.has hs' ?_
      clear hs'
      obtain ⟨bt, hbt⟩ : ∃ bt, bt = (T b && bareP f v b) := ⟨_, rfl⟩
      rw [← hbt] at hexp ⊢
      obtain ⟨nl, hnl⟩ : ∃ nl, nl = needsL x.term := ⟨_, rfl⟩
      obtain ⟨to, hto⟩ : ∃ to, to = toL x.term := ⟨_, rfl⟩
      have hto2 : to.length ≤ 2 := by rw [hto]; exact toL_len _
      rw [← hnl] at hexp
      refine Cd.seq ?_
      refine Cd.region ?_
      refine Ol.p (fdl fd_api_Func_1) ?_
      refine Ol.p (ld (v := .slice f.bA f.blocks.length f.bC) one_L_api_Block (Rd.blk (i := 1) rfl rfl)) ?_
      refine Ol.p mvi ?_
      refine Ol.p (ixn (ix := b) sl_L_api_Block (Som.slc hf.blocks (by omega))) ?_
      refine Ol.p (fdp fd_api_Block_1) ?_
      refine Ol.p (lds (es := x.term.cells) ag_api_Term hf.blocks rfl (tm_slc hx)) ?_
      refine Ol.x (sp_call (vs := [x.term.val]) (R := NewL 3 1 nl.length (ints nl)) en_ref03_Needs (fun M w' hh => hnl ▸ ref03_Needs_ct (t := x.term))) ?_
      rintro _ _ ⟨_, rfl, A107, c107, rfl, rfl⟩
      refine Ol.p ass ?_
      refine Ol.nil ?_
      refine Cd.seq ?_
      refine Cd.mid (fun σ' L' => Has σ' [(1, .int .i64 v), (2, .pointer (some ⟨g2, 0, none⟩)), (5, .slice (some ⟨gs, 0, none⟩) f.blocks.length f.blocks.length), (7, .int .i64 r), (8, .int .i64 b), (9, .bool bt), (120, .bool (nl.contains v && bt))] ∧ [row (.slice (some ⟨gs, 0, none⟩) f.blocks.length f.blocks.length) 4 1 f.blocks.length (boolsL f.blocks.length T), blk g2 (.cells f.cells.toArray 37)] = L') ?_ ?_
      · rcases hnl ▸ needs_one x.term with h6 | h6
        · subst h6
          refine Cd.region ?_
          refine Ol.p mvs ?_
          refine Ol.p (lens sl_L_int) ?_
          refine Ol.p gti ?_
          refine Ol.p mvb ?_
          refine Ol.gn rfl ?_
          refine Ol.gn rfl ?_
          refine Ol.gn rfl ?_
          refine Ol.gn rfl ?_
          refine Ol.gn rfl ?_
          refine Ol.p (pkFb rfl) ?_
          refine Ol.p mvb ?_
          refine Ol.gn rfl ?_
          refine Ol.p (pkFb rfl) ?_
          refine Ol.keep (.sub (.cons _ (List.Sublist.refl _))) ?_
          refine Ol.nil ?_
          exact ⟨⟨rfl, rfl, rfl, rfl, rfl, rfl, rfl, trivial⟩, rfl⟩
        · have h6c : nl.contains v = decide (x.term.a = v) := by
            rw [h6, Bool.eq_iff_iff, List.contains_iff_mem, List.mem_singleton, decide_eq_true_iff]
            exact ⟨fun h => h.symm, fun h => h.symm⟩
          rw [h6c]
          have h6l : nl.length = 1 := by rw [h6]; rfl
          have q3 : decide ((0 : Int) < (nl.length : Int)) = true := by rw [h6l]; rfl
          have h6i : (ints nl)[0 * 1]? = some (.int .i64 x.term.a) := by rw [h6]; rfl
          cases q10 : decide (x.term.a = v) with
          | true =>
            refine Cd.region ?_
            refine Ol.p mvs ?_
            refine Ol.p (lens sl_L_int) ?_
            refine Ol.p gti ?_
            refine Ol.p mvb ?_
            refine Ol.gp q3 mvs ?_
            refine Ol.gp q3 (ixn (ix := 0) sl_L_int (Som.row (i := 0) rfl (by omega))) ?_
            refine Ol.gp q3 (ld (v := .int .i64 x.term.a) one_int (Rd.row (i := 0) rfl h6i)) ?_
            refine Ol.gp q3 mvi ?_
            refine Ol.gp q3 eqi ?_
            refine Ol.p (pkTb q3) ?_
            refine Ol.p mvb ?_
            refine Ol.gp q10 mvb ?_
            refine Ol.p (pkTb q10) ?_
            refine Ol.keep (.sub (.cons _ (List.Sublist.refl _))) ?_
            refine Ol.nil ?_
            exact ⟨⟨rfl, rfl, rfl, rfl, rfl, rfl, rfl, trivial⟩, rfl⟩
          | false =>
            refine Cd.region ?_
            refine Ol.p mvs ?_
            refine Ol.p (lens sl_L_int) ?_
            refine Ol.p gti ?_
            refine Ol.p mvb ?_
            refine Ol.gp q3 mvs ?_
            refine Ol.gp q3 (ixn (ix := 0) sl_L_int (Som.row (i := 0) rfl (by omega))) ?_
            refine Ol.gp q3 (ld (v := .int .i64 x.term.a) one_int (Rd.row (i := 0) rfl h6i)) ?_
            refine Ol.gp q3 mvi ?_
            refine Ol.gp q3 eqi ?_
            refine Ol.p (pkTb q3) ?_
            refine Ol.p mvb ?_
            refine Ol.gn q10 ?_
            refine Ol.p (pkFb q10) ?_
            refine Ol.keep (.sub (.cons _ (List.Sublist.refl _))) ?_
            refine Ol.nil ?_
            exact ⟨⟨rfl, rfl, rfl, rfl, rfl, rfl, rfl, trivial⟩, rfl⟩
      rintro σ' _ ⟨hs', rfl⟩
      refine Cd.has hs' ?_
      clear hs'
      refine Cd.cond rfl (fun h7 => ?_) (fun h7 => ?_)   -- $120
      · rw [Bool.and_eq_true] at h7
        have hTb : T b = true := by
          rw [h7.2] at hbt
          exact (Bool.and_eq_true_iff.1 hbt.symm).1
        have hex : exposed x.ins x.term v = true := by rw [hexp hTb, h7.1, h7.2]; rfl
        refine Cd.seq ?_
        refine Cd.region ?_
        refine Ol.p asb ?_
        refine Ol.nil ?_
        exact Cd.ret ⟨.bool true, ret1 rfl rfl, [], Keep.nil, by rw [hyesT hex hTb], rfl⟩
      have hnone : T b = true → exposed x.ins x.term v = false := fun hTb => by rw [hexp hTb, Bool.and_comm]; exact h7
      refine Cd.skip ?_
      refine Cd.seq ?_
      refine Cd.region ?_
      refine Ol.p (fdl fd_api_Func_1) ?_
      refine Ol.p (ld (v := .slice f.bA f.blocks.length f.bC) one_L_api_Block (Rd.blk (i := 1) rfl rfl)) ?_
      refine Ol.p mvi ?_
      refine Ol.p (ixn (ix := b) sl_L_api_Block (Som.slc hf.blocks (by omega))) ?_
      refine Ol.p (fdp fd_api_Block_1) ?_
      refine Ol.p (lds (es := x.term.cells) ag_api_Term hf.blocks rfl (tm_slc hx)) ?_
      refine Ol.x (sp_call (vs := [x.term.val]) (R := NewL 3 1 to.length (ints to)) en_ref03_To (fun M w' hh => hto ▸ ref03_To_ct (t := x.term))) ?_
      rintro _ _ ⟨_, rfl, A127, c127, rfl, rfl⟩
      refine Ol.p ass ?_
      refine Ol.nil ?_
      refine Cd.seq ?_
      refine Cd.region ?_
      refine Ol.p asi ?_
      refine Ol.nil ?_
      refine Cd.block ?_   -- 10
      refine Cd.loop (fun m σ L => ∃ j U, m = to.length - j ∧ j ≤ to.length ∧ U = passM (bareP f v) f.terms ((edgesTo f.terms b).length + j) S ∧ U b = T b ∧ Has σ [(1, .int .i64 v), (2, .pointer (some ⟨g2, 0, none⟩)), (5, .slice (some ⟨gs, 0, none⟩) f.blocks.length f.blocks.length), (7, .int .i64 r), (8, .int .i64 b), (9, .bool bt), (15, .slice A127 to.length c127), (16, .int .i64 j)] ∧ [row (.slice A127 to.length c127) 3 1 to.length (ints to), row (.slice (some ⟨gs, 0, none⟩) f.blocks.length f.blocks.length) 4 1 f.blocks.length (boolsL f.blocks.length U), blk g2 (.cells f.cells.toArray 37)] = L) (n := to.length) ⟨0, T, rfl, Nat.zero_le _, by rw [hT]; rfl, rfl, ⟨rfl, rfl, rfl, rfl, rfl, rfl, rfl, rfl, trivial⟩, rfl⟩ ?_
      rintro _ σ L ⟨j, U, rfl, hj, hU, hUb, hs, rfl⟩
      refine Cd.has hs ?_
      clear hs
      refine Cd.seq ?_
      refine Cd.seq ?_
      refine Cd.region ?_
      refine Ol.p mvi ?_
      refine Ol.p mvs ?_
      refine Ol.p (lens sl_L_int) ?_
      refine Ol.p lsi ?_
      refine Ol.nil ?_
      refine Cd.cond rfl (fun h8 => ?_) (fun h8 => ?_)   -- $131
      · have hlt8 := lt_of h8
        obtain ⟨n, hn⟩ : ∃ n, to[j]? = some n := ⟨_, List.getElem?_eq_getElem hlt8⟩
        have hnv : (ints to)[j * 1]? = some (.int .i64 n) := ints_at1 hn
        have hed := toL_edge hx (hto ▸ hn)
        have hnr := (closed_len hc).2.2 _ (List.mem_of_getElem? hed)
        obtain ⟨q, hq⟩ : ∃ q : Nat, n = (q : Int) := ⟨n.toNat, by have := hnr.1; simp only at this; omega⟩
        have hql : q < f.blocks.length := by have := hnr.2; simp only at this; omega
        have hup : passM (bareP f v) f.terms ((edgesTo f.terms b).length + (j + 1)) S = fun i => if i = q then U q || bt else U i := by
          rw [← Nat.add_assoc, passM_succ hed, ← hU]
          funext i
          unfold upE orB
          show (if i = (n).toNat then U i || (U ((b : Int).toNat) && bareP f v ((b : Int).toNat)) else U i) = _
          rw [hq, Int.toNat_natCast, Int.toNat_natCast, hUb, ← hbt]
          by_cases h : i = q
          · rw [if_pos h, if_pos h, h]
          · rw [if_neg h, if_neg h]
        have hUb2 : passM (bareP f v) f.terms ((edgesTo f.terms b).length + (j + 1)) S b = T b := by
          rw [hup]
          show (if b = q then U q || bt else U b) = T b
          by_cases h : b = q
          · rw [if_pos h, ← h, hUb, hbt]
            cases T b <;> simp
          · rw [if_neg h, hUb]
        have hUq : (boolsL f.blocks.length U)[q * 1]? = some (.bool (U q)) := boolsL_at hql
        refine Cd.skip ?_
        refine Cd.seq ?_
        refine Cd.block ?_   -- 11
        cases q12 : U q with
        | true =>
          rw [q12] at hUq
          refine Cd.draw mixed 15 (fun _ => none) (fun _ => []) (by kernel_rfl) (fun _ _ h => by cases h) (fun u hu => ?_)
          refine Wk.p mvs ?_
          refine Wk.p mvs ?_
          refine Wk.p mvi ?_
          refine Wk.p (ixn (ix := j) sl_L_int (Som.row (i := 0) rfl (by omega))) ?_
          refine Wk.p (ld (v := .int .i64 n) one_int (Rd.row (i := 0) rfl hnv)) ?_
          refine Wk.p mvs ?_
          refine Wk.p mvs ?_
          refine Wk.p mvi ?_
          refine Wk.p (ixn (ix := j) sl_L_int (Som.row (i := 0) rfl (by omega))) ?_
          refine Wk.p (ld (v := .int .i64 n) one_int (Rd.row (i := 0) rfl hnv)) ?_
          refine Wk.p (ixn (ix := q) sl_L_bool (Som.row (i := 1) rfl (by omega)) (hy := congrArg (Value.int .i64) hq)) ?_
          refine Wk.p (ld (v := .bool true) one_bool (Rd.row (i := 1) rfl hUq)) ?_
          refine Wk.p mvb ?_
          refine Wk.gn rfl ?_
          refine Wk.p (pkTb rfl) ?_
          refine Wk.nil ?_
          refine Ol.p (ixn (ix := q) sl_L_bool (Som.row (i := 1) rfl (by omega)) (hy := congrArg (Value.int .i64) hq)) ?_
          refine Ol.s (str (i := 1) (k := q * 1) (v := .bool true) sz_bool rfl rfl rfl (by rw [boolsL_len]; omega) rfl) ?_
          refine Ol.nil ?_
          refine Cd.region ?_
          refine Ol.p mvi ?_
          refine Ol.p addi ?_
          refine Ol.p asi ?_
          refine Ol.nil ?_
          refine ⟨to.length - (j + 1), by omega, j + 1, _, rfl, by omega, rfl, hUb2, ⟨rfl, rfl, rfl, rfl, rfl, rfl, rfl, rfl, trivial⟩, ?_⟩
          rw [hup, ← boolsL_put, q12, Bool.true_or, Nat.mul_one]; rfl
        | false =>
          rw [q12] at hUq
          refine Cd.draw mixed 15 (fun _ => none) (fun _ => []) (by kernel_rfl) (fun _ _ h => by cases h) (fun u hu => ?_)
          refine Wk.p mvs ?_
          refine Wk.p mvs ?_
          refine Wk.p mvi ?_
          refine Wk.p (ixn (ix := j) sl_L_int (Som.row (i := 0) rfl (by omega))) ?_
          refine Wk.p (ld (v := .int .i64 n) one_int (Rd.row (i := 0) rfl hnv)) ?_
          refine Wk.p mvs ?_
          refine Wk.p mvs ?_
          refine Wk.p mvi ?_
          refine Wk.p (ixn (ix := j) sl_L_int (Som.row (i := 0) rfl (by omega))) ?_
          refine Wk.p (ld (v := .int .i64 n) one_int (Rd.row (i := 0) rfl hnv)) ?_
          refine Wk.p (ixn (ix := q) sl_L_bool (Som.row (i := 1) rfl (by omega)) (hy := congrArg (Value.int .i64) hq)) ?_
          refine Wk.p (ld (v := .bool false) one_bool (Rd.row (i := 1) rfl hUq)) ?_
          refine Wk.p mvb ?_
          refine Wk.gp rfl mvb ?_
          refine Wk.p (pkFb rfl) ?_
          refine Wk.nil ?_
          refine Ol.p (ixn (ix := q) sl_L_bool (Som.row (i := 1) rfl (by omega)) (hy := congrArg (Value.int .i64) hq)) ?_
          refine Ol.s (str (i := 1) (k := q * 1) (v := .bool bt) sz_bool rfl rfl rfl (by rw [boolsL_len]; omega) rfl) ?_
          refine Ol.nil ?_
          refine Cd.region ?_
          refine Ol.p mvi ?_
          refine Ol.p addi ?_
          refine Ol.p asi ?_
          refine Ol.nil ?_
          refine ⟨to.length - (j + 1), by omega, j + 1, _, rfl, by omega, rfl, hUb2, ⟨rfl, rfl, rfl, rfl, rfl, rfl, rfl, rfl, trivial⟩, ?_⟩
          rw [hup, ← boolsL_put, q12, Bool.false_or, Nat.mul_one]; rfl
      have hge8 := ge_of h8
      have hje : j = to.length := by omega
      rw [hU, hje, hto, ← edgesTo_next hx]
      refine Cd.exit (id := 10) ?_
      refine Cd.keep (.sub (.cons _ (List.Sublist.refl _))) ?_
      refine Cd.region ?_
      refine Ol.p mvi ?_
      refine Ol.p addi ?_
      refine Ol.p asi ?_
      refine Ol.nil ?_
      refine ⟨f.blocks.length - (b + 1), by omega, b + 1, rfl, by omega, ?_, ⟨rfl, rfl, rfl, rfl, rfl, trivial⟩, rfl⟩
      intro b' y hb' hy hSb
      rcases Nat.lt_or_ge b' b with h9 | h9
      · exact hbs b' y h9 hy hSb
      · have e9 : b' = b := by omega
        subst e9
        rw [hx] at hy
        rw [← Option.some.inj hy]
        exact hnone (by rw [hT]; exact passM_sub hSb _)
    have hge2 := ge_of h2
    have hbe : b = f.blocks.length := by omega
    have hpe : passM (bareP f v) f.terms (edgesTo f.terms b).length S = iterF F (r + 1) (openB f v) := by
      rw [hbe, ← htl]
      show passA (bareP f v) f.terms S = F (iterF F r (openB f v))
      rw [hS, hF]
    rw [hpe]
    refine Cd.exit (id := 4) ?_
    refine Cd.region ?_
    refine Ol.p mvi ?_
    refine Ol.p addi ?_
    refine Ol.p asi ?_
    refine Ol.nil ?_
    refine ⟨f.blocks.length - (r + 1), by omega, r + 1, rfl, by omega, fun _ b' y hy hSb => ?_, ⟨rfl, rfl, rfl, rfl, trivial⟩, rfl⟩
    refine hbs b' y (by have := (List.getElem?_eq_some_iff.1 hy).1; omega) hy ?_
    rw [hS]
    exact hSb
  have hge := ge_of h
  have hre : r = f.blocks.length := by omega
  have hno : lacksB f v = false := by
    cases hl : lacksB f v with
    | false => rfl
    | true =>
      obtain ⟨b, x, h1, h2, h3⟩ := lacksB_iff.1 hl
      have := hrec (by omega) b x h1 (by
        have := open_full hc hv hp h3
        rw [htl] at this
        rw [hF, hre]
        exact this)
      rw [this] at h2
      cases h2
  refine Cd.exit (id := 2) ?_
  refine Cd.seq ?_
  refine Cd.region ?_
  refine Ol.p asb ?_
  refine Ol.nil ?_
  exact Cd.ret ⟨.bool false, ret1 rfl rfl, [], Keep.nil, by rw [hno], rfl⟩
end
end Go.Proofs.YtjenaenakopicaaGreat

/- Plain law: a function whose variables are renamed, one to one. -/
namespace Go.Proofs.YtjenaenakopicaaGreat
set_option linter.unusedVariables false
open Go Go.RowKit

/-- A renaming: none stays, variables go to variables, one to one, all of them. -/
structure Rnm (r : Int → Int) (rN : Nat → Nat) : Prop where
  var : ∀ n, varB (r n) = varB n
  stay : ∀ n, varB n = false → r n = n
  inj : ∀ a b, r a = r b → a = b
  onto : ∀ n, ∃ m, r m = n
  nat : ∀ n : Nat, r (n : Int) = ((rN n : Nat) : Int)
section
variable {r : Int → Int} {rN : Nat → Nat}
def renT (r : Int → Int) (t : Tm) : Tm := { t with a := r t.a }
def renI (r : Int → Int) (i : RIns) : RIns := { i with dst := r i.dst, a := r i.a, b := r i.b, args := i.args.map r }
def renB (r : Int → Int) (b : RBlk) : RBlk := { b with ins := b.ins.map (renI r), term := renT r b.term }
def renF (r : Int → Int) (f : RFun) : RFun := { f with params := f.params.map r, blocks := f.blocks.map (renB r) }
end
/-- The renaming of the law. -/
def shiftI (k : Nat) (v : Int) : Int := if v < 1 ∨ 200 < v then v else (v - 1 + k) % 200 + 1
def shiftN (k v : Nat) : Nat := if v < 1 ∨ 200 < v then v else (v - 1 + k) % 200 + 1
end Go.Proofs.YtjenaenakopicaaGreat

/- The package ir: the most operands, arguments; a variable renamed, walked. -/
namespace Go.Proofs.YtjenaenakopicaaGreat
set_option linter.unusedVariables false
open Go Go.RowKit
set_option maxRecDepth 100000

def insMost (p : Nat × Nat) (i : RIns) : Nat × Nat := if i.op = 13 then (p.1, max p.2 i.args.length) else (max p.1 (readsL i).length, p.2)
def blkMost (p : Nat × Nat) (b : RBlk) : Nat × Nat := b.ins.foldl insMost (max p.1 (needsL b.term).length, p.2)
def mostF (f : RFun) : Nat × Nat := if okF f then f.blocks.foldl blkMost (0, f.params.length) else (0, 0)
section
def mostTo' (f : RFun) (k : Nat) : Nat × Nat := (f.blocks.take k).foldl blkMost (0, f.params.length)
end
end Go.Proofs.YtjenaenakopicaaGreat

/- The document's answer of layer 03: whether a function is right; its variables; its size, walked. -/
namespace Go.Proofs.YtjenaenakopicaaGreat
set_option linter.unusedVariables false
set_option linter.unusedSimpArgs false
open Go Go.RowKit
set_option maxRecDepth 100000

theorem readsL_ten (i : RIns) : (readsL i).length ≤ 10 := by
  unfold readsL
  cases h : isIns i with
  | false => simp
  | true =>
    rw [cond_true, List.length_append]
    have h1 := (isIns_parts h).2.2.2.2
    have h2 := List.length_filter_le (fun n => !decide (n = 0)) [i.a, i.b]
    simp only [List.length_cons, List.length_nil] at h2
    omega
theorem all_order2 {ts : List Tm} (hc : closed ts = true) : ts.length ≤ (orderF ts).length ↔ ∀ b, b < ts.length → Rc ts 0 b := by
  constructor
  · intro h b hb
    rw [← order_mem hc]
    by_cases hm : b ∈ orderF ts
    · exact hm
    · have := nodup_le (b :: orderF ts) (List.range ts.length) (List.nodup_cons.2 ⟨hm, order_nodup hc⟩) (fun x hx => by
        rcases List.mem_cons.1 hx with rfl | hx
        · simpa using hb
        · rw [order_mem hc] at hx
          cases hx with
          | refl => simp; omega
          | step _ h => have := toAt_lt hc h; simp; omega)
      simp at this
      omega
  · intro h
    have := nodup_le (List.range ts.length) (orderF ts) List.nodup_range (fun x hx => (order_mem hc x).2 (h x (by simpa using hx)))
    simpa using this
section
set_option maxHeartbeats 4000000 in
theorem ref03_Right_ct {w : World} {f : RFun} (hf : FunAt w w.heap.size f) (hfit : Fit f) : Ct Tryz.prog 47 #[f.val] w (Is (.int .i64 (rightF f))) := by
  have htl : f.terms.length = f.blocks.length := by simp [RFun.terms]
  refine Ct.mk Tryz.func47 rfl rfl ?_
  refine Cd.seq ?_
  refine Cd.region ?_
  refine Ol.x bxg ?_
  rintro _ _ ⟨g1, rfl, rfl⟩
  refine Ol.p asi ?_
  refine Ol.nil ?_
  refine Cd.seq ?_
  refine Cd.seq ?_
  refine Cd.region ?_
  refine Ol.p (ldw (cs := f.cells.toArray) ag_api_Func (i := 0) rfl rfl) ?_
  refine Ol.s (cl (v := .bool (longF f)) en_ref03_long (fun M w' hh => ref03_long_ct (hf.now hh) hfit)) ?_
  refine Ol.nil ?_
  refine Cd.cond rfl (fun hl => ?_) (fun hl => ?_)   -- $8
  · refine Cd.seq ?_
    refine Cd.region ?_
    refine Ol.p asi ?_
    refine Ol.nil ?_
    exact Cd.ret ⟨.int .i64 3, ret1 rfl rfl, [], Keep.nil, by unfold rightF; rw [hl]; rfl, rfl⟩
  obtain ⟨h0, h200, hp8, hi64⟩ := long_parts hl
  refine Cd.skip ?_
  refine Cd.seq ?_
  refine Cd.seq ?_
  refine Cd.region ?_
  refine Ol.p (ldw (cs := f.cells.toArray) ag_api_Func (i := 0) rfl rfl) ?_
  refine Ol.s (cl (v := .bool (wholeF f)) en_ref03_shaped (fun M w' hh => ref03_shaped_ct (hf.now hh) hfit)) ?_
  refine Ol.p noti ?_
  refine Ol.nil ?_
  refine Cd.cond rfl (fun hw => ?_) (fun hw => ?_)   -- $11
  · have hw : (!wholeF f) = true := hw
    refine Cd.seq ?_
    refine Cd.region ?_
    refine Ol.p asi ?_
    refine Ol.nil ?_
    exact Cd.ret ⟨.int .i64 2, ret1 rfl rfl, [], Keep.nil, by unfold rightF; rw [hl, hw]; rfl, rfl⟩
  have hw : (!wholeF f) = false := hw
  have hwt : wholeF f = true := by simpa using hw
  have hpar := whole_params hwt
  have e1 : rightF f = bif !okEs f.terms || decide ((orderF f.terms).length < f.blocks.length) then 9 else bif !valuedF f then 8 else 0 := by unfold rightF; rw [hl, hw]; rfl
  refine Cd.skip ?_
  refine Cd.seq ?_
  refine Cd.region ?_
  refine Ol.p (ldw (cs := f.cells.toArray) ag_api_Func (i := 0) rfl rfl) ?_
  refine Ol.x (sp_call (vs := [f.val]) (R := ReachR f) en_ref03_reached (fun M w' hh => ref03_reached_ct (hf.now hh) hfit h0 h200)) ?_
  rintro _ _ ⟨R, rfl, hR⟩
  rcases hR with ⟨hno, rfl, rfl⟩ | ⟨hok, A, c, rfl, rfl⟩
  · skip
    refine Ol.p mvt ?_
    refine Ol.p extv ?_
    refine Ol.p extv ?_
    refine Ol.p ass ?_
    refine Ol.p asb ?_
    refine Ol.nil ?_
    refine Cd.mid (fun σ' L' => Has σ' [(4, .bool false)] ∧ [blk g1 (.cells f.cells.toArray 37)] = L') ?_ ?_
    · refine Cd.seq ?_
      refine Cd.region ?_
      refine Ol.p asi ?_
      refine Ol.nil ?_
      refine Cd.block ?_   -- 0
      refine Cd.loop (fun m σ L => Has σ [(3, .slice none 0 0), (4, .bool false), (5, .int .i64 0)] ∧ [blk g1 (.cells f.cells.toArray 37)] = L) (n := 0) ⟨⟨rfl, rfl, rfl, trivial⟩, rfl⟩ ?_
      rintro _ σ L ⟨hs, rfl⟩
      refine Cd.has hs ?_
      clear hs
      refine Cd.seq ?_
      refine Cd.seq ?_
      refine Cd.region ?_
      refine Ol.p mvi ?_
      refine Ol.p mvs ?_
      refine Ol.p (lens sl_L_bool) ?_
      refine Ol.p lsi ?_
      refine Ol.nil ?_
      refine Cd.cond rfl (fun h => by cases h) (fun _ => ?_)
      refine Cd.exit (id := 0) ?_
      exact ⟨⟨rfl, trivial⟩, rfl⟩
    rintro σ' _ ⟨hs', rfl⟩
    refine Cd.has hs' ?_
    clear hs'
    refine Cd.seq ?_
    refine Cd.seq ?_
    refine Cd.region ?_
    refine Ol.p mvb ?_
    refine Ol.p noti ?_
    refine Ol.nil ?_
    refine Cd.cond rfl (fun _ => ?_) (fun h => by cases h)
    refine Cd.seq ?_
    refine Cd.region ?_
    refine Ol.p asi ?_
    refine Ol.nil ?_
    exact Cd.ret ⟨.int .i64 9, ret1 rfl rfl, [], Keep.nil, by rw [e1, hno]; rfl, rfl⟩
  have hcl := okEs_closed hok (by omega) (by omega)
  obtain ⟨S, hS⟩ : ∃ S, S = iterF (passA (fun _ => true) f.terms) f.blocks.length oneB := ⟨_, rfl⟩
  rw [← hS]
  have hall : ((List.range f.blocks.length).all S) = !decide ((orderF f.terms).length < f.blocks.length) := by
    rw [Bool.eq_iff_iff, List.all_eq_true, Bool.not_eq_true', decide_eq_false_iff_not, Nat.not_lt]
    rw [← htl, all_order2 hcl]
    constructor
    · intro h b hb
      have := h b (by simpa using hb)
      rw [hS, ← htl] at this
      exact (reached_rounds hcl hb).1 this
    · intro h b hb
      have hb : b < f.terms.length := by simpa using hb
      rw [hS, ← htl]
      exact (reached_rounds hcl hb).2 (h b hb)
  refine Ol.keep Keep.comm ?_
  refine Ol.p mvt ?_
  refine Ol.p extv ?_
  refine Ol.p extv ?_
  refine Ol.p ass ?_
  refine Ol.p asb ?_
  refine Ol.nil ?_
  refine Cd.mid (fun σ' L' => Has σ' [(1, .pointer (some ⟨g1, 0, none⟩)), (4, .bool ((List.range f.blocks.length).all S))] ∧ [blk g1 (.cells f.cells.toArray 37)] = L') ?_ ?_
  · refine Cd.seq ?_
    refine Cd.region ?_
    refine Ol.p asi ?_
    refine Ol.nil ?_
    refine Cd.block ?_   -- 0
    refine Cd.loop (fun m σ L => ∃ k, m = f.blocks.length - k ∧ k ≤ f.blocks.length ∧ Has σ [(1, .pointer (some ⟨g1, 0, none⟩)), (3, .slice A f.blocks.length c), (4, .bool ((List.range k).all S)), (5, .int .i64 k)] ∧ [blk g1 (.cells f.cells.toArray 37), row (.slice A f.blocks.length c) 4 1 f.blocks.length (boolsL f.blocks.length S)] = L) (n := f.blocks.length) ⟨0, rfl, Nat.zero_le _, ⟨rfl, rfl, rfl, rfl, trivial⟩, rfl⟩ ?_
    rintro _ σ L ⟨k, rfl, hk, hs, rfl⟩
    refine Cd.has hs ?_
    clear hs
    refine Cd.seq ?_
    refine Cd.seq ?_
    refine Cd.region ?_
    refine Ol.p mvi ?_
    refine Ol.p mvs ?_
    refine Ol.p (lens sl_L_bool) ?_
    refine Ol.p lsi ?_
    refine Ol.nil ?_
    refine Cd.cond rfl (fun h => ?_) (fun h => ?_)   -- $20
    · have hlt := lt_of h
      have hr : (List.range (k + 1)).all S = ((List.range k).all S && S k) := by
        rw [List.range_succ, List.all_append]
        simp
      refine Cd.skip ?_
      refine Cd.seq ?_
      refine Cd.block ?_   -- 1
      cases q1 : (List.range k).all S with
      | true =>
        refine Cd.region ?_
        refine Ol.p mvb ?_
        refine Ol.p mvb ?_
        refine Ol.gp rfl mvs ?_
        refine Ol.gp rfl mvi ?_
        refine Ol.gp rfl (ixn (ix := k) sl_L_bool (Som.row (i := 1) rfl (by omega))) ?_
        refine Ol.gp rfl (ld (v := .bool (S k)) one_bool (Rd.row (i := 1) rfl (boolsL_at hlt))) ?_
        refine Ol.p (pkTb rfl) ?_
        refine Ol.p asb ?_
        refine Ol.nil ?_
        refine Cd.region ?_
        refine Ol.p mvi ?_
        refine Ol.p addi ?_
        refine Ol.p asi ?_
        refine Ol.nil ?_
        exact ⟨f.blocks.length - (k + 1), by omega, k + 1, rfl, by omega, ⟨rfl, rfl, congrArg Value.bool (by rw [hr, q1, Bool.true_and]), rfl, trivial⟩, rfl⟩
      | false =>
        refine Cd.region ?_
        refine Ol.p mvb ?_
        refine Ol.p mvb ?_
        refine Ol.gn rfl ?_
        refine Ol.gn rfl ?_
        refine Ol.gn rfl ?_
        refine Ol.gn rfl ?_
        refine Ol.p (pkFb rfl) ?_
        refine Ol.p asb ?_
        refine Ol.nil ?_
        refine Cd.region ?_
        refine Ol.p mvi ?_
        refine Ol.p addi ?_
        refine Ol.p asi ?_
        refine Ol.nil ?_
        exact ⟨f.blocks.length - (k + 1), by omega, k + 1, rfl, by omega, ⟨rfl, rfl, congrArg Value.bool (by rw [hr, q1, Bool.false_and]), rfl, trivial⟩, rfl⟩
    have hge := ge_of h
    have hke : k = f.blocks.length := by omega
    rw [hke]
    refine Cd.keep (.sub (.cons_cons _ (.cons _ .slnil))) ?_
    refine Cd.exit (id := 0) ?_
    exact ⟨⟨rfl, rfl, trivial⟩, rfl⟩
  rintro σ' _ ⟨hs', rfl⟩
  refine Cd.has hs' ?_
  clear hs'
  rw [hok] at e1
  refine Cd.seq ?_
  refine Cd.seq ?_
  refine Cd.region ?_
  refine Ol.p mvb ?_
  refine Ol.p noti ?_
  refine Ol.nil ?_
  refine Cd.cond rfl (fun h => ?_) (fun h => ?_)   -- $31
  · have h : (!(List.range f.blocks.length).all S) = true := h
    rw [hall, Bool.not_not] at h
    refine Cd.seq ?_
    refine Cd.region ?_
    refine Ol.p asi ?_
    refine Ol.nil ?_
    exact Cd.ret ⟨.int .i64 9, ret1 rfl rfl, [], Keep.nil, by rw [e1, h]; rfl, rfl⟩
  have h : (!(List.range f.blocks.length).all S) = false := h
  rw [hall, Bool.not_not] at h
  rw [h] at e1
  refine Cd.skip ?_
  refine Cd.seq ?_
  refine Cd.seq ?_
  refine Cd.region ?_
  refine Ol.p asi ?_
  refine Ol.nil ?_
  refine Cd.block ?_   -- 2
  refine Cd.loop (fun m σ L => ∃ k, m = 200 - k ∧ k ≤ 200 ∧ (∀ v : Int, 1 ≤ v → v ≤ k → lacksB f v = false) ∧ Has σ [(1, .pointer (some ⟨g1, 0, none⟩)), (6, .int .i64 ((k + 1 : Nat) : Int))] ∧ [blk g1 (.cells f.cells.toArray 37)] = L) (n := 200) ⟨0, rfl, Nat.zero_le _, (fun v h1 h2 => by omega), ⟨rfl, rfl, trivial⟩, rfl⟩ ?_
  rintro _ σ L ⟨k, rfl, hk, hno, hs, rfl⟩
  refine Cd.has hs ?_
  clear hs
  refine Cd.seq ?_
  refine Cd.seq ?_
  refine Cd.region ?_
  refine Ol.p mvi ?_
  refine Ol.p lei ?_
  refine Ol.nil ?_
  refine Cd.cond rfl (fun h2 => ?_) (fun h2 => ?_)   -- $33
  · have hlt : k < 200 := by
      have h2 : decide (((k + 1 : Nat) : Int) ≤ 200) = true := h2
      have := of_decide_eq_true h2
      omega
    refine Cd.skip ?_
    refine Cd.seq ?_
    refine Cd.block ?_   -- 3
    refine Cd.seq ?_
    refine Cd.region ?_
    refine Ol.p (ldw (cs := f.cells.toArray) ag_api_Func (i := 0) rfl rfl) ?_
    refine Ol.p mvi ?_
    refine Ol.s (cl (v := .bool (lacksB f ((k + 1 : Nat) : Int))) en_ref03_lacks (fun M w' hh => ref03_lacks_ct (hf.now hh) hfit hcl (fun p hp => (hpar p hp).1) (by omega) (fun _ _ i _ => readsL_ten i))) ?_
    refine Ol.nil ?_
    refine Cd.cond rfl (fun h3 => ?_) (fun h3 => ?_)   -- $38
    · have hv : valuedF f = false := by
        cases hv : valuedF f with
        | false => rfl
        | true =>
          have := valued_lacks.1 hv ((k + 1 : Nat) : Int) (by omega) (by omega)
          rw [this] at h3
          cases h3
      refine Cd.seq ?_
      refine Cd.region ?_
      refine Ol.p asi ?_
      refine Ol.nil ?_
      exact Cd.ret ⟨.int .i64 8, ret1 rfl rfl, [], Keep.nil, by rw [e1, hv]; rfl, rfl⟩
    refine Cd.skip ?_
    refine Cd.region ?_
    refine Ol.p mvi ?_
    refine Ol.p addi ?_
    refine Ol.p asi ?_
    refine Ol.nil ?_
    refine ⟨200 - (k + 1), by omega, k + 1, rfl, by omega, (fun v h4 h5 => ?_), ⟨rfl, rfl, trivial⟩, rfl⟩
    by_cases h6 : v ≤ k
    · exact hno v h4 h6
    · have : v = ((k + 1 : Nat) : Int) := by omega
      rw [this]; exact h3
  have hge : k = 200 := by
    have h2 : decide (((k + 1 : Nat) : Int) ≤ 200) = false := h2
    have := of_decide_eq_false h2
    omega
  have hv : valuedF f = true := valued_lacks.2 fun v h4 h5 => hno v h4 (by omega)
  refine Cd.exit (id := 2) ?_
  refine Cd.seq ?_
  refine Cd.region ?_
  refine Ol.p asi ?_
  refine Ol.nil ?_
  exact Cd.ret ⟨.int .i64 0, ret1 rfl rfl, [], Keep.nil, by rw [e1, hv]; rfl, rfl⟩
end
end Go.Proofs.YtjenaenakopicaaGreat

/- The law 08: its example, walked. -/
namespace Go.Proofs.YtjenaenakopicaaGreat
set_option linter.unusedVariables false
open Go Go.RowKit
set_option maxRecDepth 100000

section
def J08a : RIns := ⟨1, 1, 0, 0, 0, 0, none, 0, [], 0⟩
def J08b : RIns := ⟨5, 1, 1, 1, 0, 0, none, 0, [], 0⟩
def J08c : RIns := ⟨13, 1, 0, 0, 0, 3, none, 0, [], 0⟩
def I08a : List RIns := [J08a, J08b]
def I08b : List RIns := [J08c]
def B08 (il : List RIns) (gi : Nat) : RBlk := ⟨some ⟨gi, 0, none⟩, il.length, il, ⟨3, 1, 0, 0⟩⟩
def F08 (il : List RIns) (gb gi : Nat) : RFun := ⟨none, 0, [], some ⟨gb, 0, none⟩, 1, [B08 il gi]⟩
theorem F08_fit {il : List RIns} {gb gi : Nat} (h : il = I08a ∨ il = I08b) : Fit (F08 il gb gi) := by
  rcases h with rfl | rfl <;> constructor <;> simp [F08, B08, I08a, I08b, J08a, J08b, J08c]
theorem I08_args {il : List RIns} (h : il = I08a ∨ il = I08b) : ∀ i ∈ il, i.args = [] ∧ i.aA = none := by
  intro i hi
  rcases h with rfl | rfl
  · simp [I08a] at hi
    rcases hi with rfl | rfl <;> exact ⟨rfl, rfl⟩
  · simp [I08b] at hi
    subst hi
    exact ⟨rfl, rfl⟩
theorem F08_at {w : World} {B gb gi : Nat} {il : List RIns} (hl : il = I08a ∨ il = I08b) (h : Reads w B 5 (some ⟨gb, 0, none⟩) 1 ((F08 il gb gi).blocks.flatMap RBlk.cells)) (hi : Reads w B 8 (some ⟨gi, 0, none⟩) il.length (il.flatMap RIns.cells)) : FunAt w B (F08 il gb gi) := by
  refine ⟨reads_no, h, ?_, ?_⟩
  · intro b hb
    simp [F08] at hb
    subst hb
    exact hi
  · intro b hb i hi
    simp [F08] at hb
    subst hb
    obtain ⟨h1, h2⟩ := I08_args hl i hi
    rw [h1, h2]
    exact reads_no
theorem F08_alen {gb gi : Nat} {il : List RIns} (hl : il = I08a ∨ il = I08b) (n : Nat) : ∀ b ∈ (F08 il gb gi).blocks, ∀ i ∈ b.ins, i.args.length < 2 ^ n := by
  intro b hb i hi
  simp [F08] at hb
  subst hb
  rw [(I08_args hl i hi).1]
  exact Nat.two_pow_pos n
theorem F08_in {w : World} {B gb gi : Nat} {il : List RIns} (hl : il = I08a ∨ il = I08b) (h : FunAt w B (F08 il gb gi)) : BlksIn w B (F08 il gb gi).bA (F08 il gb gi).blocks := by
  refine ⟨h.blocks, h.ins, h.args, by simp [F08], fun b hb => ?_, F08_alen hl 44⟩
  simp [F08] at hb
  subst hb
  rcases hl with rfl | rfl <;> simp [B08, I08a, I08b]
theorem F08_blk {gb gi b : Nat} {il : List RIns} {x : RBlk} (hx : (F08 il gb gi).blocks[b]? = some x) : b = 0 ∧ x = B08 il gi := by
  have h0 : b = 0 := by
    have := (List.getElem?_eq_some_iff.1 hx).1
    simp [F08] at this; exact this
  subst h0
  exact ⟨rfl, by simpa [F08] using hx.symm⟩
theorem F08_ord {gb gi : Nat} {il : List RIns} : (F08 il gb gi).blocks.length ≤ (orderF (F08 il gb gi).terms).length := by
  have : (0 : Nat) ∈ orderF (F08 il gb gi).terms := List.contains_iff_mem.1 (show (orderF [(⟨3, 1, 0, 0⟩ : Tm)]).contains 0 = true by kernel_rfl)
  exact List.length_pos_of_mem this
theorem e08n : needsL ⟨3, 1, 0, 0⟩ = [1] := by kernel_rfl
theorem e08a : readsL J08a = [] ∧ defI J08a = 1 := ⟨by kernel_rfl, by kernel_rfl⟩
theorem e08b : readsL J08b = [1, 1] ∧ defI J08b = 1 := ⟨by kernel_rfl, by kernel_rfl⟩
theorem e08c : readsL J08c = [] ∧ defI J08c = 1 := ⟨by kernel_rfl, by kernel_rfl⟩
theorem F08_r {gb gi : Nat} {il : List RIns} (hl : il = I08a ∨ il = I08b) : rightF (F08 il gb gi) = 0 := by
  rw [rightF_iff]
  refine ⟨by rcases hl with rfl | rfl <;> kernel_rfl, by rcases hl with rfl | rfl <;> kernel_rfl, by rcases hl with rfl | rfl <;> kernel_rfl, F08_ord, ?_⟩
  rw [valuedF_iff]
  intro b x v hx he
  obtain ⟨rfl, rfl⟩ := F08_blk hx
  exfalso
  rcases hl with rfl | rfl
  · simp [B08, I08a, exposed, e08a.1, e08a.2, e08b.1, e08b.2, e08n] at he
    omega
  · simp [B08, I08b, exposed, e08c.1, e08c.2, e08n] at he
    omega
theorem GoR.ok {f : RFun} {args mem ans : List Int} {n : Int} {v : Value} {R : List Res} (h : GoR f args mem ans n v R) (hok : okB f args mem) (hn : n ≤ 20000) : ∃ z : RRes, z.of (goS f (begS f args mem ans) n.toNat) ∧ v = .tuple #[.agg z.cells.toArray, .int .i64 0] ∧ R.Perm z.res := by
  rcases h with ⟨_, _, h⟩ | ⟨h, _⟩ | ⟨_, h, _⟩
  · exact h
  · exact absurd hok h
  · omega
theorem RRes.one (z : RRes) : ∀ u ∈ z.cells.toArray.toList, u.oneCell' = true := by
  intro u hu
  simp [RRes.cells] at hu
  rcases hu with rfl | rfl | rfl | rfl | rfl <;> rfl
def G08a (gb gi : Nat) : RSt := goS (F08 I08a gb gi) (begS (F08 I08a gb gi) [] [] []) 9
def G08b (gb gi : Nat) (l : List Int) : RSt := goS (F08 I08b gb gi) (begS (F08 I08b gb gi) [] [] l) 9
theorem G08a_e {gb gi : Nat} : (G08a gb gi).e = 2 ∧ (G08a gb gi).steps = 2 := ⟨by kernel_rfl, by kernel_rfl⟩
theorem G08b_e {gb gi : Nat} : (G08b gb gi []).e = 2 ∧ (G08b gb gi []).calls.length = 1 := ⟨by kernel_rfl, by kernel_rfl⟩
theorem G08c_e {gb gi : Nat} : (G08b gb gi [7]).e = 1 ∧ (G08b gb gi [7]).v = 7 := ⟨by kernel_rfl, by kernel_rfl⟩
theorem F08_okB {gb gi : Nat} {il : List RIns} (hl : il = I08a ∨ il = I08b) : okB (F08 il gb gi) [] [] := ⟨F08_r hl, rfl, Nat.zero_le _⟩
theorem go08_ct {w : World} {gb gi nC : Nat} {il : List RIns} {nA : Option Addr} {ans : List Int} (hl : il = I08a ∨ il = I08b) (h : Reads w w.heap.size 5 (some ⟨gb, 0, none⟩) 1 ((F08 il gb gi).blocks.flatMap RBlk.cells)) (hi : Reads w w.heap.size 8 (some ⟨gi, 0, none⟩) il.length (il.flatMap RIns.cells)) (hn : Reads w w.heap.size 1 nA ans.length (ints ans)) (hnl : ans.length < 2 ^ 43) :
    Ct Tryz.prog 15 #[(F08 il gb gi).val, .slice none 0 0, .slice none 0 0, .slice nA ans.length nC, .int .i64 9] w (GoR (F08 il gb gi) [] [] ans 9) :=
  run_Go_ct (f := F08 il gb gi) (args := []) (mem := []) (ans := ans) (n := 9) (F08_at hl h hi) (F08_fit hl) (by simp [F08]) (F08_in hl (F08_at hl h hi)) (F08_alen hl 43) reads_no reads_no hn (by simp) hnl
set_option maxHeartbeats 4000000 in
theorem law08_awake_ct {w : World} : Ct Tryz.prog 12 #[] w (Is (.bool true)) := by
  refine Ct.mk Tryz.func12 rfl rfl ?_
  refine Cd.seq ?_
  refine Cd.region ?_
  refine Ol.p asb ?_
  refine Ol.nil ?_
  refine Cd.seq ?_
  refine Cd.region ?_
  refine Ol.p (bds (cs := #[.int .i64 3, .int .i64 1, .int .i64 0, .int .i64 0]) bs_api_Term zr_api_Term (hf := by kernel_rfl)) ?_
  refine Ol.x (alc zr_api_Term) ?_
  rintro _ _ ⟨g1, rfl, rfl⟩
  refine Ol.s (stw (vs := #[.int .i64 3, .int .i64 1, .int .i64 0, .int .i64 0]) sz_api_Term rfl (by intro u hu; simp at hu; rcases hu with rfl | rfl | rfl <;> rfl) (i := 0) rfl rfl) ?_
  refine Ol.nil ?_
  refine Cd.seq ?_
  refine Cd.region ?_
  refine Ol.p (bds (cs := J08a.cells.toArray) bs_api_Ins zr_api_Ins (hf := by kernel_rfl)) ?_
  refine Ol.p (bds (cs := J08b.cells.toArray) bs_api_Ins zr_api_Ins (hf := by kernel_rfl)) ?_
  refine Ol.x (bsn [J08a.val, J08b.val] sl_L_api_Ins zr_api_Ins (by intro v hv; simp at hv; rcases hv with rfl | rfl <;> rfl) rfl (by decide) (by decide)) ?_
  rintro _ _ ⟨gi, rfl, rfl⟩
  refine Ol.p (ldw (cs := #[.int .i64 3, .int .i64 1, .int .i64 0, .int .i64 0]) ag_api_Term (i := 1) rfl rfl) ?_
  refine Ol.p (bds (cs := #[.slice (some ⟨gi, 0, none⟩) 2 2, .int .i64 3, .int .i64 1, .int .i64 0, .int .i64 0]) bs_api_Block zr_api_Block (hf := by kernel_rfl)) ?_
  refine Ol.x (bsn [RBlk.val (B08 I08a gi)] sl_L_api_Block zr_api_Block (by intro v hv; simp at hv; subst hv; rfl) rfl (by decide) (by decide)) ?_
  rintro _ _ ⟨gb, rfl, rfl⟩
  refine Ol.p (bds (cs := #[.slice none 0 0, .slice (some ⟨gb, 0, none⟩) 1 1]) bs_api_Func zr_api_Func (hf := by kernel_rfl)) ?_
  refine Ol.x (alc zr_api_Func) ?_
  rintro _ _ ⟨g2, rfl, rfl⟩
  refine Ol.s (stw (vs := #[.slice none 0 0, .slice (some ⟨gb, 0, none⟩) 1 1]) sz_api_Func rfl (by intro u hu; simp at hu; rcases hu with rfl | rfl <;> rfl) (i := 0) rfl rfl) ?_
  refine Ol.nil ?_
  refine Cd.seq ?_
  refine Cd.region ?_
  refine Ol.p (bds (cs := J08c.cells.toArray) bs_api_Ins zr_api_Ins (hf := by kernel_rfl)) ?_
  refine Ol.x (bsn [J08c.val] sl_L_api_Ins zr_api_Ins (by intro v hv; simp at hv; subst hv; rfl) rfl (by decide) (by decide)) ?_
  rintro _ _ ⟨gi2, rfl, rfl⟩
  refine Ol.p (ldw (cs := #[.int .i64 3, .int .i64 1, .int .i64 0, .int .i64 0]) ag_api_Term (i := 4) rfl rfl) ?_
  refine Ol.p (bds (cs := #[.slice (some ⟨gi2, 0, none⟩) 1 1, .int .i64 3, .int .i64 1, .int .i64 0, .int .i64 0]) bs_api_Block zr_api_Block (hf := by kernel_rfl)) ?_
  refine Ol.x (bsn [RBlk.val (B08 I08b gi2)] sl_L_api_Block zr_api_Block (by intro v hv; simp at hv; subst hv; rfl) rfl (by decide) (by decide)) ?_
  rintro _ _ ⟨gb2, rfl, rfl⟩
  refine Ol.p (bds (cs := #[.slice none 0 0, .slice (some ⟨gb2, 0, none⟩) 1 1]) bs_api_Func zr_api_Func (hf := by kernel_rfl)) ?_
  refine Ol.x (alc zr_api_Func) ?_
  rintro _ _ ⟨g3, rfl, rfl⟩
  refine Ol.s (stw (vs := #[.slice none 0 0, .slice (some ⟨gb2, 0, none⟩) 1 1]) sz_api_Func rfl (by intro u hu; simp at hu; rcases hu with rfl | rfl <;> rfl) (i := 0) rfl rfl) ?_
  refine Ol.nil ?_
  refine Cd.seq ?_
  refine Cd.region ?_
  refine Ol.p (ldw (cs := (F08 I08a gb gi).cells.toArray) ag_api_Func (i := 3) rfl rfl) ?_
  refine Ol.x (sp_call (vs := [(F08 I08a gb gi).val, .slice none 0 0, .slice none 0 0, .slice none 0 0, .int .i64 9]) (R := GoR (F08 I08a gb gi) [] [] [] 9) en_run_Go (fun M w' hh => go08_ct (ans := []) (.inl rfl) (Reads.row hh (i := 4) rfl) (Reads.row hh (i := 5) rfl) reads_no (by simp))) ?_
  rintro _ _ ⟨R1, rfl, hR1⟩
  obtain ⟨z1, hz1, rfl, _⟩ := hR1.ok (F08_okB (.inl rfl)) (by decide)
  refine Ol.keep Keep.snd ?_
  refine Ol.p mvt ?_
  refine Ol.p extv ?_
  refine Ol.p extv ?_
  refine Ol.x (alc zr_run_Result) ?_
  rintro _ _ ⟨g4, rfl, rfl⟩
  refine Ol.s (stw (vs := z1.cells.toArray) sz_run_Result rfl z1.one (i := 0) rfl rfl) ?_
  refine Ol.p asi ?_
  refine Ol.nil ?_
  refine Cd.seq ?_
  refine Cd.region ?_
  refine Ol.p (ldw (cs := (F08 I08b gb2 gi2).cells.toArray) ag_api_Func (i := 1) rfl rfl) ?_
  refine Ol.x (sp_call (vs := [(F08 I08b gb2 gi2).val, .slice none 0 0, .slice none 0 0, .slice none 0 0, .int .i64 9]) (R := GoR (F08 I08b gb2 gi2) [] [] [] 9) en_run_Go (fun M w' hh => go08_ct (ans := []) (.inr rfl) (Reads.row hh (i := 2) rfl) (Reads.row hh (i := 3) rfl) reads_no (by simp))) ?_
  rintro _ _ ⟨R2, rfl, hR2⟩
  obtain ⟨z2, hz2, rfl, _⟩ := hR2.ok (F08_okB (.inr rfl)) (by decide)
  refine Ol.keep Keep.snd ?_
  refine Ol.p mvt ?_
  refine Ol.p extv ?_
  refine Ol.p extv ?_
  refine Ol.x (alc zr_run_Result) ?_
  rintro _ _ ⟨g6, rfl, rfl⟩
  refine Ol.s (stw (vs := z2.cells.toArray) sz_run_Result rfl z2.one (i := 0) rfl rfl) ?_
  refine Ol.p asi ?_
  refine Ol.nil ?_
  refine Cd.seq ?_
  refine Cd.region ?_
  refine Ol.p (ldw (cs := (F08 I08b gb2 gi2).cells.toArray) ag_api_Func (i := 2) rfl rfl) ?_
  refine Ol.x (bsv [.int .i64 7] sl_L_int zr_int (by simp [Value.cells])) ?_
  rintro _ _ ⟨gn, rfl, rfl⟩
  refine Ol.x (sp_call (vs := [(F08 I08b gb2 gi2).val, .slice none 0 0, .slice none 0 0, .slice (some ⟨gn, 0, none⟩) 1 1, .int .i64 9]) (R := GoR (F08 I08b gb2 gi2) [] [] [7] 9) en_run_Go (fun M w' hh => go08_ct (ans := [7]) (.inr rfl) (Reads.row hh (i := 4) rfl) (Reads.row hh (i := 5) rfl) (Reads.row hh (i := 0) rfl) (by simp))) ?_
  rintro _ _ ⟨R3, rfl, hR3⟩
  obtain ⟨z3, hz3, rfl, _⟩ := hR3.ok (F08_okB (.inr rfl)) (by decide)
  refine Ol.keep Keep.snd ?_
  refine Ol.p mvt ?_
  refine Ol.p extv ?_
  refine Ol.p extv ?_
  refine Ol.x (alc zr_run_Result) ?_
  rintro _ _ ⟨g8, rfl, rfl⟩
  refine Ol.s (stw (vs := z3.cells.toArray) sz_run_Result rfl z3.one (i := 0) rfl rfl) ?_
  refine Ol.p asi ?_
  refine Ol.nil ?_
  have h2 : decide ((0 : Int) = 0) = true := rfl
  replace hz1 : z1.of (G08a gb gi) := hz1
  replace hz2 : z2.of (G08b gb2 gi2 []) := hz2
  replace hz3 : z3.of (G08b gb2 gi2 [7]) := hz3
  have h7 : decide (z1.e = 2) = true := by rw [hz1.1, G08a_e.1]; rfl
  have h12 : decide ((z1.steps : Int) = 2) = true := by rw [hz1.2.2.2.1, G08a_e.2]; rfl
  have h21 : decide (z2.e = 2) = true := by rw [hz2.1, G08b_e.1]; rfl
  have h27 : decide ((z2.recs.length : Int) = 1) = true := by
    have e1 := congrArg List.length hz2.2.2.2.2
    rw [List.length_map, G08b_e.2] at e1
    rw [e1]; rfl
  have h36 : decide (z3.e = 1) = true := by rw [hz3.1, G08c_e.1]; rfl
  have h40 : decide (z3.v = 7) = true := by rw [hz3.2.1, G08c_e.2]; rfl
  refine Cd.seq ?_
  refine Cd.region ?_
  refine Ol.p mvi ?_
  refine Ol.p eqi ?_
  refine Ol.p mvb ?_
  refine Ol.gp h2 (fdl fd_run_Result_0) ?_
  refine Ol.gp h2 (ld (v := .int .i64 z1.e) one_api_EndKind (Rd.blk (i := 3) rfl rfl)) ?_
  refine Ol.gp h2 eqi ?_
  refine Ol.p (pkTb h2) ?_
  refine Ol.p mvb ?_
  refine Ol.gp h7 (fdl fd_run_Result_4) ?_
  refine Ol.gp h7 (ld (v := .int .i64 z1.steps) one_int (Rd.blk (i := 3) rfl rfl)) ?_
  refine Ol.gp h7 eqi ?_
  refine Ol.p (pkTb h7) ?_
  refine Ol.p mvb ?_
  refine Ol.gp h12 mvi ?_
  refine Ol.gp h12 eqi ?_
  refine Ol.p (pkTb h12) ?_
  refine Ol.p mvb ?_
  refine Ol.gp h2 (fdl fd_run_Result_0) ?_
  refine Ol.gp h2 (ld (v := .int .i64 z2.e) one_api_EndKind (Rd.blk (i := 2) rfl rfl)) ?_
  refine Ol.gp h2 eqi ?_
  refine Ol.p (pkTb h2) ?_
  refine Ol.p mvb ?_
  refine Ol.gp h21 (fdl fd_run_Result_2) ?_
  refine Ol.gp h21 (ld (v := .slice z2.cA z2.recs.length z2.cC) one_L_api_Call (Rd.blk (i := 2) rfl rfl)) ?_
  refine Ol.gp h21 (lens sl_L_api_Call) ?_
  refine Ol.gp h21 eqi ?_
  refine Ol.p (pkTb h21) ?_
  refine Ol.p mvb ?_
  refine Ol.gp h27 mvi ?_
  refine Ol.gp h27 eqi ?_
  refine Ol.p (pkTb h27) ?_
  refine Ol.p mvb ?_
  refine Ol.gp h2 (fdl fd_run_Result_0) ?_
  refine Ol.gp h2 (ld (v := .int .i64 z3.e) one_api_EndKind (Rd.blk (i := 0) rfl rfl)) ?_
  refine Ol.gp h2 eqi ?_
  refine Ol.p (pkTb h2) ?_
  refine Ol.p mvb ?_
  refine Ol.gp h36 (fdl fd_run_Result_1) ?_
  refine Ol.gp h36 (ld (v := .int .i64 z3.v) one_int (Rd.blk (i := 0) rfl rfl)) ?_
  refine Ol.gp h36 eqi ?_
  refine Ol.p (pkTb h36) ?_
  refine Ol.p asb ?_
  refine Ol.nil ?_
  exact Cd.ret ⟨.bool _, ret1 rfl rfl, [], Keep.nil, congrArg Value.bool h40, rfl⟩
end
section
theorem law08_RunCalcs_ct {w : World} {o a b : Int} : Ct Tryz.prog 28 #[.int .i64 o, .int .i64 a, .int .i64 b] w (Is (.bool true)) := by
  refine Ct.mk Tryz.func28 rfl rfl ?_
  refine Cd.seq ?_
  refine Cd.region ?_
  refine Ol.p asb ?_
  refine Ol.nil ?_
  obtain ⟨x, c, hv⟩ : ∃ x c, calcV o a b = .tuple #[.int .i64 x, .bool c] := ⟨_, _, rfl⟩
  refine Cd.seq ?_
  refine Cd.region ?_
  refine Ol.p mvi ?_
  refine Ol.p mvi ?_
  refine Ol.p mvi ?_
  refine Ol.s (cl (v := .tuple #[.int .i64 x, .bool c]) en_run_Calc (fun M w' hh => hv ▸ run_Calc_ct)) ?_
  refine Ol.p mvt ?_
  refine Ol.p extv ?_
  refine Ol.p extv ?_
  refine Ol.p asi ?_
  refine Ol.p asb ?_
  refine Ol.nil ?_
  refine Cd.seq ?_
  refine Cd.region ?_
  refine Ol.p mvi ?_
  refine Ol.p mvi ?_
  refine Ol.p mvi ?_
  refine Ol.s (cl (v := .tuple #[.int .i64 x, .bool c]) en_ref08_Calc (fun M w' hh => hv ▸ ref08_Calc_ct)) ?_
  refine Ol.p mvt ?_
  refine Ol.p extv ?_
  refine Ol.p extv ?_
  refine Ol.p asi ?_
  refine Ol.p asb ?_
  refine Ol.nil ?_
  have h3 : decide (x = x) = true := by simp
  have h8 : (c == c) = true := by simp
  refine Cd.seq ?_
  refine Cd.region ?_
  refine Ol.p mvi ?_
  refine Ol.p mvi ?_
  refine Ol.p eqi ?_
  refine Ol.p mvb ?_
  refine Ol.gp h3 mvb ?_
  refine Ol.gp h3 mvb ?_
  refine Ol.gp h3 (eqb bo_bool) ?_
  refine Ol.p (pkTb h3) ?_
  refine Ol.p mvb ?_
  refine Ol.gs h8 (cl en_law08_awake (fun M w' hh => law08_awake_ct)) ?_
  refine Ol.p (pkTb h8) ?_
  refine Ol.p asb ?_
  refine Ol.nil ?_
  exact Cd.ret ⟨.bool _, ret1 rfl rfl, [], Keep.nil, rfl, rfl⟩
end
end Go.Proofs.YtjenaenakopicaaGreat

/- The law 08: RunAgain, walked. -/
namespace Go.Proofs.YtjenaenakopicaaGreat
set_option linter.unusedVariables false
open Go Go.RowKit
set_option maxRecDepth 100000

theorem s8_arg : ∀ {l : List RIns} {i : RIns}, i ∈ l → i.args.length ≤ argSum l
  | [], _, h => by cases h
  | a :: l, i, h => by
    have e : argSum (a :: l) = a.args.length + argSum l := by simp [argSum]
    rcases List.mem_cons.1 h with rfl | h
    · omega
    · have := s8_arg h; omega
theorem s8_blk : ∀ {l : List RBlk} {b : RBlk}, b ∈ l → bsz b ≤ blocksSz l
  | [], _, h => by cases h
  | a :: l, b, h => by
    have e : blocksSz (a :: l) = bsz a + blocksSz l := by simp [blocksSz]
    rcases List.mem_cons.1 h with rfl | h
    · omega
    · have := s8_blk h; omega
theorem s8_len : ∀ l : List RBlk, l.length ≤ blocksSz l
  | [] => by simp
  | a :: l => by
    have e : blocksSz (a :: l) = bsz a + blocksSz l := by simp [blocksSz]
    have := s8_len l
    have h2 : 1 ≤ bsz a := by unfold bsz; omega
    simp only [List.length_cons]; omega
theorem s8_alen {f : RFun} (h : f.sz ≤ 700) : ∀ b ∈ f.blocks, ∀ i ∈ b.ins, i.args.length ≤ 700 := fun b hb i hi => by
  have h0 : f.params.length + blocksSz f.blocks ≤ 700 := h
  have := s8_blk hb
  have h3 := s8_arg hi
  unfold bsz at this; omega
theorem BlksIn.of8 {w : World} {f : RFun} (hf : FunAt w w.heap.size f) (h : f.sz ≤ 700) : BlksIn w w.heap.size f.bA f.blocks := by
  have h1 := s8_len f.blocks
  have h0 : f.params.length + blocksSz f.blocks ≤ 700 := h
  refine ⟨hf.blocks, hf.ins, hf.args, by omega, fun b hb => ?_, fun b hb i hi => ?_⟩
  · have := s8_blk hb
    unfold bsz at this; omega
  · have := s8_alen h b hb i hi
    omega
section
theorem recsIn_own {w0 w : World} {B : Nat} {M L : List Res} {z : RRes} (hh : Hp w0 B (M ++ L) w) (hs : ∀ r ∈ z.res, r ∈ L) (hl : z.recs.length < 2 ^ 60) (ha : ∀ r ∈ z.recs, r.args.length < 2 ^ 43) : RecsIn w w.heap.size z.cA z.recs := by
  have key : ∀ {A : Option Addr} {n c e s : Nat} {xs : List Value}, row (Value.slice A n c) e s n xs ∈ z.res → Reads w w.heap.size s A n xs := fun hm => by
    obtain ⟨i, hi⟩ := List.mem_iff_getElem?.1 (hs _ hm)
    exact Reads.row hh hi
  exact ⟨key (List.mem_cons_self ..), fun r hr => key (List.mem_cons_of_mem _ (List.mem_cons_of_mem _ (List.mem_map_of_mem hr))), hl, fun r hr => Nat.lt_trans (ha r hr) (by decide)⟩
theorem res_memIn {w0 w : World} {B : Nat} {M L : List Res} {z : RRes} (hh : Hp w0 B (M ++ L) w) (hs : ∀ r ∈ z.res, r ∈ L) : Reads w w.heap.size 1 z.mA z.mem.length (ints z.mem) := by
  obtain ⟨i, hi⟩ := List.mem_iff_getElem?.1 (hs _ (List.mem_cons_of_mem _ (List.mem_cons_self ..)))
  exact Reads.row hh hi
end
end Go.Proofs.YtjenaenakopicaaGreat

/- The law 08: RunSafe, walked. -/
namespace Go.Proofs.YtjenaenakopicaaGreat
set_option linter.unusedVariables false
open Go Go.RowKit
set_option maxRecDepth 100000

def wasA (s : RSt) (n : Nat) : Array Value := ((List.range 201).map fun j => Value.int .i64 (if 1 ≤ j ∧ j < n then s.get j else 0)).toArray
theorem stepR_same {f g : RFun} (e : g.bare = f.bare) (s : RSt) : stepR g s = stepR f s := by rw [← stepR_bare g, e, stepR_bare f]
end Go.Proofs.YtjenaenakopicaaGreat

