/- Part 5 of the proof of IrEndsC: the texts Count, Pick, Law03, IrParts, DrawU, CountsLaw, RefP, RefD, RefE, RefF, Ren, Most, RefG, RefH, one behind the other. -/
import Derived.Test.YtcojedoejpcolaaGreatIrEndsCM4
/- How great a function is: walked. -/
namespace Go.Proofs.YtcojedoejpcolaaGreat
set_option linter.unusedVariables false
open Go Go.RowKit
set_option maxRecDepth 100000

def argSum (l : List RIns) : Nat := (l.map fun i => i.args.length).sum
def bsz (b : RBlk) : Nat := 1 + b.ins.length + argSum b.ins
def blocksSz (l : List RBlk) : Nat := (l.map bsz).sum
def RFun.sz (f : RFun) : Nat := f.params.length + blocksSz f.blocks
theorem argSum_snoc {l : List RIns} {k : Nat} {i : RIns} (h : l[k]? = some i) : argSum (l.take (k + 1)) = argSum (l.take k) + i.args.length := by
  unfold argSum
  rw [take_snoc_ h, List.map_append, List.sum_append]; simp
theorem blocksSz_snoc {l : List RBlk} {k : Nat} {b : RBlk} (h : l[k]? = some b) : blocksSz (l.take (k + 1)) = blocksSz (l.take k) + bsz b := by
  unfold blocksSz
  rw [take_snoc_ h, List.map_append, List.sum_append]; simp
theorem blocksSz_mem {l : List RBlk} {b : RBlk} (h : b ∈ l) : bsz b ≤ blocksSz l := by
  unfold blocksSz
  induction l with
  | nil => cases h
  | cons c l ih =>
    simp only [List.map_cons, List.sum_cons]
    rcases List.mem_cons.1 h with rfl | h
    · omega
    · have := ih h; omega
theorem blocksSz_len (l : List RBlk) : l.length ≤ blocksSz l := by
  unfold blocksSz
  induction l with
  | nil => simp
  | cons b l ih => simp [bsz]; omega
/-- What is counted: all, or more than the bound. -/
def Counted (n most total : Nat) : Prop := (n ≤ most → n = total) ∧ n < 2 ^ 55
theorem counted_ex {most : Nat} (hm : most < 2 ^ 40) (t : Nat) : ∃ n, Counted n most t := by
  rcases Nat.lt_or_ge most t with h | h
  · exact ⟨most + 1, fun h' => by omega, by omega⟩
  · exact ⟨t, fun _ => rfl, by omega⟩
section
set_option maxHeartbeats 1000000 in
theorem kit_BlocksOf_ct {w : World} {f : RFun} {most : Nat} (hf : FunAt w w.heap.size f) (hfit : Fit f) (hm : most < 2 ^ 40) : Ct Tryz.prog 52 #[.slice f.bA f.blocks.length f.bC, .int .i64 most] w (fun v R => ∃ n : Nat, v = .int .i64 n ∧ Counted n most (blocksSz f.blocks) ∧ R = []) := by
  have hbl := hfit.blen
  refine Ct.mk Tryz.func52 rfl rfl ?_
  refine Cd.seq ?_
  refine Cd.region ?_
  refine Ol.p asi ?_
  refine Ol.nil ?_
  refine Cd.seq ?_
  refine Cd.region ?_
  refine Ol.p asi ?_
  refine Ol.nil ?_
  refine Cd.seq ?_
  refine Cd.seq ?_
  refine Cd.region ?_
  refine Ol.p asi ?_
  refine Ol.nil ?_
  refine Cd.block ?_
  refine Cd.loop (fun m σ L => ∃ k n : Nat, m = f.blocks.length - k ∧ k ≤ f.blocks.length ∧ Has σ [(0, .slice f.bA f.blocks.length f.bC), (1, .int .i64 most), (5, .int .i64 n), (6, .int .i64 k)] ∧ L = [] ∧ Counted n most (blocksSz (f.blocks.take k))) (n := f.blocks.length) ⟨0, 0, rfl, Nat.zero_le _, ⟨rfl, rfl, rfl, rfl, trivial⟩, rfl, fun _ => rfl, by decide⟩ ?_
  rintro _ σ L ⟨k, n, rfl, hk, hs, rfl, hn⟩
  obtain ⟨hn1, hn2⟩ := hn
  refine Cd.has hs ?_
  refine Cd.seq ?_
  refine Cd.seq ?_
  cases h4 : decide ((k : Int) < (f.blocks.length : Int)) with
  | true =>
    have hlt : k < f.blocks.length := by simpa using h4
    obtain ⟨b, hb⟩ : ∃ b, f.blocks[k]? = some b := ⟨_, List.getElem?_eq_getElem hlt⟩
    have hbm : b ∈ f.blocks := List.mem_of_getElem? hb
    have hil := hfit.ilen b hbm
    have hins := hf.ins b hbm
    have hsl : Som w w.heap.size ([] : List Res) f.bA := Som.slc hf.blocks (by omega)
    have hc0 : (f.blocks.flatMap RBlk.cells)[k * 5 + 0]? = some (.slice b.iA b.ins.length b.iC) := hf.cell hb (by decide)
    refine Cd.region ?_
    refine Ol.p mvi ?_
    refine Ol.p mvs ?_
    refine Ol.p (lens sl_L_api_Block) ?_
    refine Ol.p lsi ?_
    refine Ol.p mvb ?_
    refine Ol.gp h4 mvi ?_
    refine Ol.gp h4 mvi ?_
    refine Ol.gp h4 lei ?_
    refine Ol.p (pkTb h4) ?_
    refine Ol.nil ?_
    refine Cd.cond rfl (fun h => ?_) (fun h => ?_)
    · have hle : n ≤ most := by simpa using h
      have hne := hn1 hle
      refine Cd.skip ?_
      refine Cd.mid (fun σ' L' => ∃ n' : Nat, Has σ' [(0, .slice f.bA f.blocks.length f.bC), (1, .int .i64 most), (5, .int .i64 n'), (6, .int .i64 k)] ∧ L' = [] ∧ Counted n' most (blocksSz (f.blocks.take (k + 1)))) ?_ ?_
      · refine Cd.block ?_
        refine Cd.seq ?_
        refine Cd.region ?_
        refine Ol.p mvi ?_
        refine Ol.p addi ?_
        refine Ol.p mvs ?_
        refine Ol.p mvi ?_
        refine Ol.p (ixn sl_L_api_Block hsl) ?_
        refine Ol.p (fdp fd_api_Block_0) ?_
        refine Ol.p (ld one_L_api_Ins (Rd.slc hf.blocks hc0)) ?_
        refine Ol.p (lens sl_L_api_Ins) ?_
        refine Ol.p addi ?_
        refine Ol.p asi ?_
        refine Ol.nil ?_
        refine Cd.seq ?_
        refine Cd.region ?_
        refine Ol.p asi ?_
        refine Ol.nil ?_
        refine Cd.block ?_
        refine Cd.loop (fun m σ L => ∃ j n : Nat, m = b.ins.length - j ∧ j ≤ b.ins.length ∧ Has σ [(0, .slice f.bA f.blocks.length f.bC), (1, .int .i64 most), (5, .int .i64 n), (6, .int .i64 k), (7, .int .i64 j)] ∧ L = [] ∧ (n ≤ most → n = blocksSz (f.blocks.take k) + 1 + b.ins.length + argSum (b.ins.take j)) ∧ n < 2 ^ 55 ∧ (j = 0 → n ≤ most + 1 + b.ins.length)) (n := b.ins.length) ⟨0, n + 1 + b.ins.length, rfl, Nat.zero_le _, ⟨rfl, rfl, rfl, rfl, rfl, trivial⟩, rfl, fun _ => by rw [hne]; rfl, by omega, fun _ => by omega⟩ ?_
        rintro _ σ L ⟨j, n, rfl, hj, hs, rfl, hq1, hq2, hq3⟩
        refine Cd.has hs ?_
        refine Cd.seq ?_
        refine Cd.seq ?_
        cases h8 : decide ((j : Int) < (b.ins.length : Int)) with
        | true =>
          have hjl : j < b.ins.length := by simpa using h8
          obtain ⟨i, hi⟩ : ∃ i, b.ins[j]? = some i := ⟨_, List.getElem?_eq_getElem hjl⟩
          have him : i ∈ b.ins := List.mem_of_getElem? hi
          have hal := hfit.alen b hbm i him
          have hc6 : (b.ins.flatMap RIns.cells)[j * 8 + 6]? = some (.slice i.aA i.args.length i.aC) := flat_get RIns.len _ _ _ _ hi (by decide)
          refine Cd.region ?_
          refine Ol.p mvi ?_
          refine Ol.p mvs ?_
          refine Ol.p mvi ?_
          refine Ol.p (ixn sl_L_api_Block hsl) ?_
          refine Ol.p (fdp fd_api_Block_0) ?_
          refine Ol.p (ld one_L_api_Ins (Rd.slc hf.blocks hc0)) ?_
          refine Ol.p (lens sl_L_api_Ins) ?_
          refine Ol.p lsi ?_
          refine Ol.p mvb ?_
          refine Ol.gp h8 mvi ?_
          refine Ol.gp h8 mvi ?_
          refine Ol.gp h8 lei ?_
          refine Ol.p (pkTb h8) ?_
          refine Ol.nil ?_
          refine Cd.cond rfl (fun h => ?_) (fun h => ?_)
          · have hle : n ≤ most := by simpa using h
            refine Cd.skip ?_
            refine Cd.seq ?_
            refine Cd.block ?_
            refine Cd.region ?_
            refine Ol.p mvi ?_
            refine Ol.p mvs ?_
            refine Ol.p mvi ?_
            refine Ol.p (ixn sl_L_api_Block hsl) ?_
            refine Ol.p (fdp fd_api_Block_0) ?_
            refine Ol.p (ld one_L_api_Ins (Rd.slc hf.blocks hc0)) ?_
            refine Ol.p mvi ?_
            refine Ol.p (ixn sl_L_api_Ins (Som.slc hins (by omega))) ?_
            refine Ol.p (fdp fd_api_Ins_6) ?_
            refine Ol.p (ld one_L_int (Rd.slc hins hc6)) ?_
            refine Ol.p (lens sl_L_int) ?_
            refine Ol.p addi ?_
            refine Ol.p asi ?_
            refine Ol.nil ?_
            refine Cd.region ?_
            refine Ol.p mvi ?_
            refine Ol.p addi ?_
            refine Ol.p asi ?_
            refine Ol.nil ?_
            refine ⟨b.ins.length - (j + 1), by omega, j + 1, n + i.args.length, rfl, by omega, ⟨rfl, rfl, rfl, rfl, rfl, trivial⟩, rfl, fun h' => ?_, by omega, fun h' => by omega⟩
            rw [argSum_snoc hi, hq1 hle]
            omega
          · have hgt : most < n := by
              have : ¬ (n : Int) ≤ most := by simpa using h
              omega
            refine Cd.exit (id := 2) ?_
            exact ⟨n, ⟨rfl, rfl, rfl, rfl, trivial⟩, rfl, fun h' => by omega, hq2⟩
        | false =>
          have hje : j = b.ins.length := by
            have : ¬ (j : Int) < b.ins.length := by simpa using h8
            omega
          refine Cd.region ?_
          refine Ol.p mvi ?_
          refine Ol.p mvs ?_
          refine Ol.p mvi ?_
          refine Ol.p (ixn sl_L_api_Block hsl) ?_
          refine Ol.p (fdp fd_api_Block_0) ?_
          refine Ol.p (ld one_L_api_Ins (Rd.slc hf.blocks hc0)) ?_
          refine Ol.p (lens sl_L_api_Ins) ?_
          refine Ol.p lsi ?_
          refine Ol.p mvb ?_
          refine Ol.gn h8 ?_
          refine Ol.gn h8 ?_
          refine Ol.gn h8 ?_
          refine Ol.p (pkFb h8) ?_
          refine Ol.nil ?_
          refine Cd.cond rfl (fun h => by cases h) (fun h => ?_)
          refine Cd.exit (id := 2) ?_
          refine ⟨n, ⟨rfl, rfl, rfl, rfl, trivial⟩, rfl, fun h' => ?_, hq2⟩
          rw [hq1 h', hje, List.take_length, blocksSz_snoc hb]
          unfold bsz; omega
      · rintro σ' _ ⟨n', hs', rfl, hn'⟩
        refine Cd.has hs' ?_
        refine Cd.region ?_
        refine Ol.p mvi ?_
        refine Ol.p addi ?_
        refine Ol.p asi ?_
        refine Ol.nil ?_
        exact ⟨f.blocks.length - (k + 1), by omega, k + 1, n', rfl, by omega, ⟨rfl, rfl, rfl, rfl, trivial⟩, rfl, hn'⟩
    · have hgt : most < n := by
        have : ¬ (n : Int) ≤ most := by simpa using h
        omega
      refine Cd.exit (id := 0) ?_
      refine Cd.seq ?_
      refine Cd.region ?_
      refine Ol.p mvi ?_
      refine Ol.p asi ?_
      refine Ol.nil ?_
      exact Cd.ret ⟨.int .i64 _, ret1 rfl rfl, [], .nil, n, rfl, ⟨fun h' => by omega, hn2⟩, rfl⟩
  | false =>
    have hke : k = f.blocks.length := by
      have : ¬ (k : Int) < f.blocks.length := by simpa using h4
      omega
    subst hke
    refine Cd.region ?_
    refine Ol.p mvi ?_
    refine Ol.p mvs ?_
    refine Ol.p (lens sl_L_api_Block) ?_
    refine Ol.p lsi ?_
    refine Ol.p mvb ?_
    refine Ol.gn h4 ?_
    refine Ol.gn h4 ?_
    refine Ol.gn h4 ?_
    refine Ol.p (pkFb h4) ?_
    refine Ol.nil ?_
    refine Cd.cond rfl (fun h => by cases h) (fun h => ?_)
    refine Cd.exit (id := 0) ?_
    refine Cd.seq ?_
    refine Cd.region ?_
    refine Ol.p mvi ?_
    refine Ol.p asi ?_
    refine Ol.nil ?_
    rw [List.take_length] at hn1
    exact Cd.ret ⟨.int .i64 _, ret1 rfl rfl, [], .nil, n, rfl, ⟨hn1, hn2⟩, rfl⟩
theorem kit_FuncOf_ct {w : World} {f : RFun} {most : Nat} (hf : FunAt w w.heap.size f) (hfit : Fit f) (hm : most < 2 ^ 40) : Ct Tryz.prog 11 #[f.val, .int .i64 most] w (fun v R => ∃ n : Nat, v = .int .i64 n ∧ (n ≤ most → n = f.sz) ∧ n < 2 ^ 56 ∧ R = []) := by
  have hpl := hfit.plen
  refine Ct.mk Tryz.func11 rfl rfl ?_
  refine Cd.seq ?_
  refine Cd.region ?_
  refine Ol.x bxg ?_
  rintro _ _ ⟨g2, rfl, rfl⟩
  refine Ol.p asi ?_
  refine Ol.nil ?_
  refine Cd.seq ?_
  refine Cd.draw mixed 8 (fun j => match j with | 6 => some (fun v R => ∃ n : Nat, v = .int .i64 n ∧ Counted n most (blocksSz f.blocks) ∧ R = []) | _ => none) (fun _ => []) (by kernel_rfl) (by intro j V h; split at h <;> cases h; obtain ⟨n, hn⟩ := counted_ex hm (blocksSz f.blocks); exact ⟨_, _, n, rfl, hn, rfl⟩) (fun u hu => ?_)
  refine Wk.p (fdl fd_api_Func_0) ?_
  refine Wk.p (ld one_L_int (Rd.blk (i := 0) rfl rfl)) ?_
  refine Wk.p (lens sl_L_int) ?_
  refine Wk.p (fdl fd_api_Func_1) ?_
  refine Wk.p (ld one_L_api_Block (Rd.blk (i := 0) rfl rfl)) ?_
  refine Wk.p mvi ?_
  refine Wk.x hu (sp_call en_kit_BlocksOf (fun M w' hh => kit_BlocksOf_ct (hf.now hh) hfit hm)) ?_
  rintro _ _ hu6 ⟨n, rfl, ⟨hn1, hn2⟩, rfl⟩
  refine Wk.p addi ?_
  refine Wk.nil ?_
  rw [needs_cons hu6, needs_none]
  refine Ol.p asi ?_
  refine Ol.nil ?_
  exact Cd.ret ⟨.int .i64 _, ret1 rfl rfl, [], .nil, f.params.length + n, rfl, fun h' => by rw [hn1 (by omega)]; rfl, by omega, rfl⟩
end
end Go.Proofs.YtcojedoejpcolaaGreat

/- Picking. -/
namespace Go.Proofs.YtcojedoejpcolaaGreat
set_option linter.unusedVariables false
open Go Go.RowKit
set_option maxRecDepth 100000
end Go.Proofs.YtcojedoejpcolaaGreat

/- The law 03: its example; IrSafe, walked. -/
namespace Go.Proofs.YtcojedoejpcolaaGreat
set_option linter.unusedVariables false
open Go Go.RowKit
set_option maxRecDepth 100000

theorem reads_no {w : World} {B s : Nat} : Reads w B s none 0 [] := ⟨by simp, fun h => absurd h (by omega)⟩
theorem exposed_mid : ∀ {l : List RIns} {t : Tm} {v : Int} {k : Nat} {i : RIns}, l[k]? = some i → (∀ j, j < k → ∀ i', l[j]? = some i' → defI i' ≠ v) → v ∈ readsL i → exposed l t v = true
  | [], _, _, _, _, h, _, _ => by simp at h
  | a :: l, t, v, 0, i, h, _, hv => by
    have : a = i := by simpa using h
    subst this
    unfold exposed
    rw [Bool.or_eq_true]
    exact .inl (by simpa using hv)
  | a :: l, t, v, k + 1, i, h, hd, hv => by
    unfold exposed
    rw [Bool.or_eq_true, Bool.and_eq_true]
    refine .inr ⟨?_, exposed_mid (k := k) (i := i) (by simpa using h) (fun j hj i' hi' => hd (j + 1) (by omega) i' (by simpa using hi')) hv⟩
    have := hd 0 (by omega) a (by simp)
    simpa using this
theorem exposed_end : ∀ {l : List RIns} {t : Tm} {v : Int}, (∀ i ∈ l, defI i ≠ v) → v ∈ needsL t → exposed l t v = true
  | [], t, v, _, hv => by unfold exposed; simpa using hv
  | a :: l, t, v, hd, hv => by
    unfold exposed
    rw [Bool.or_eq_true, Bool.and_eq_true]
    exact .inr ⟨by simpa using hd a (by simp), exposed_end (fun i hi => hd i (by simp [hi])) hv⟩
section
def I03 : List RIns := [⟨1, 1, 0, 0, 5, 0, none, 0, [], 0⟩]
def B03 (gi : Nat) (a : Int) : RBlk := ⟨some ⟨gi, 0, none⟩, 1, I03, ⟨3, a, 0, 0⟩⟩
def F03 (gb gi : Nat) (a : Int) : RFun := ⟨none, 0, [], some ⟨gb, 0, none⟩, 1, [B03 gi a]⟩
theorem F03_fit {gb gi : Nat} {a : Int} (h : a = 1 ∨ a = 2) : Fit (F03 gb gi a) := by
  rcases h with rfl | rfl <;> constructor <;> simp [F03, B03, I03]
theorem F03_at {w : World} {B gb gi : Nat} {a : Int} (h : Reads w B 5 (some ⟨gb, 0, none⟩) 1 ((F03 gb gi a).blocks.flatMap RBlk.cells)) (hi : Reads w B 8 (some ⟨gi, 0, none⟩) 1 (I03.flatMap RIns.cells)) : FunAt w B (F03 gb gi a) := by
  refine ⟨reads_no, h, ?_, ?_⟩
  · intro b hb
    simp [F03] at hb
    subst hb
    exact hi
  · intro b hb i hi
    simp [F03] at hb
    subst hb
    simp [B03, I03] at hi
    subst hi
    exact reads_no
theorem F03_blk {gb gi b : Nat} {a : Int} {x : RBlk} (hx : (F03 gb gi a).blocks[b]? = some x) : b = 0 ∧ x = B03 gi a := by
  have h0 : b = 0 := by
    have := (List.getElem?_eq_some_iff.1 hx).1
    simp [F03] at this; exact this
  subst h0
  exact ⟨rfl, by simpa [F03] using hx.symm⟩
theorem F03_ord {gb gi : Nat} {a : Int} (h : a = 1 ∨ a = 2) : decide ((orderF (F03 gb gi a).terms).length < (F03 gb gi a).blocks.length) = false := by
  rw [decide_eq_false_iff_not]
  have : (0 : Nat) ∈ orderF (F03 gb gi a).terms := by
    rcases h with rfl | rfl
    · exact List.contains_iff_mem.1 (show (orderF [(⟨3, 1, 0, 0⟩ : Tm)]).contains 0 = true by kernel_rfl)
    · exact List.contains_iff_mem.1 (show (orderF [(⟨3, 2, 0, 0⟩ : Tm)]).contains 0 = true by kernel_rfl)
  have h1 := List.length_pos_of_mem this
  have h2 : (F03 gb gi a).blocks.length = 1 := rfl
  omega
theorem e03r : readsL ⟨1, 1, 0, 0, 5, 0, none, 0, [], 0⟩ = [] := by kernel_rfl
theorem e03d : defI ⟨1, 1, 0, 0, 5, 0, none, 0, [], 0⟩ = 1 := by kernel_rfl
theorem F03_r1 {gb gi : Nat} : rightF (F03 gb gi 1) = 0 := by
  rw [rightF_iff]
  refine ⟨by kernel_rfl, by kernel_rfl, by kernel_rfl, by have := F03_ord (gb := gb) (gi := gi) (.inl rfl); simpa using this, ?_⟩
  rw [valuedF_iff]
  intro b x v hx he
  obtain ⟨rfl, rfl⟩ := F03_blk hx
  exfalso
  have e5 : needsL ⟨3, 1, 0, 0⟩ = [1] := by kernel_rfl
  simp [B03, I03, exposed, e03r, e03d, e5] at he
  omega
theorem F03_v2 {gb gi : Nat} : valuedF (F03 gb gi 2) = false := by
  rw [← Bool.not_eq_true, valuedF_iff]
  intro h
  have e5 : needsL ⟨3, 2, 0, 0⟩ = [2] := by kernel_rfl
  refine h 0 (B03 gi 2) 2 rfl ?_ (.zero fun p hp => ?_)
  · simp [B03, I03, exposed, e03r, e03d, e5]
  · simp [F03] at hp
theorem F03_r2 {gb gi : Nat} : rightF (F03 gb gi 2) = 8 := by
  unfold rightF
  rw [show longF (F03 gb gi 2) = false by kernel_rfl, show wholeF (F03 gb gi 2) = true by kernel_rfl, show okEs (F03 gb gi 2).terms = true by kernel_rfl, F03_ord (.inr rfl), F03_v2]
  rfl
theorem F03_vars {gb gi : Nat} : (varsF (F03 gb gi 1)).length = 1 := by kernel_rfl
theorem F03_size {gb gi : Nat} : sizeF (F03 gb gi 1) = 2 := by kernel_rfl
set_option maxHeartbeats 2000000 in
theorem law03_awake_ct {w : World} : Ct Tryz.prog 10 #[] w (Is (.bool true)) := by
  refine Ct.mk Tryz.func10 rfl rfl ?_
  refine Cd.seq ?_
  refine Cd.region ?_
  refine Ol.p asb ?_
  refine Ol.nil ?_
  refine Cd.seq ?_
  refine Cd.region ?_
  refine Ol.p (bds (cs := (RIns.cells ⟨1, 1, 0, 0, 5, 0, none, 0, [], 0⟩).toArray) bs_api_Ins zr_api_Ins (hf := by kernel_rfl)) ?_
  refine Ol.x (bsn [RIns.val ⟨1, 1, 0, 0, 5, 0, none, 0, [], 0⟩] sl_L_api_Ins zr_api_Ins (by intro v hv; simp at hv; subst hv; rfl) rfl (by decide) (by decide)) ?_
  rintro _ _ ⟨gi, rfl, rfl⟩
  refine Ol.p (bds (cs := #[.int .i64 3, .int .i64 1, .int .i64 0, .int .i64 0]) bs_api_Term zr_api_Term (hf := by kernel_rfl)) ?_
  refine Ol.p (bds (cs := #[.slice (some ⟨gi, 0, none⟩) 1 1, .int .i64 3, .int .i64 1, .int .i64 0, .int .i64 0]) bs_api_Block zr_api_Block (hf := by kernel_rfl)) ?_
  refine Ol.x (bsn [RBlk.val (B03 gi 1)] sl_L_api_Block zr_api_Block (by intro v hv; simp at hv; subst hv; rfl) rfl (by decide) (by decide)) ?_
  rintro _ _ ⟨gb, rfl, rfl⟩
  refine Ol.p (bds (cs := #[.slice none 0 0, .slice (some ⟨gb, 0, none⟩) 1 1]) bs_api_Func zr_api_Func (hf := by kernel_rfl)) ?_
  refine Ol.x (alc zr_api_Func) ?_
  rintro _ _ ⟨g1, rfl, rfl⟩
  refine Ol.s (stw (vs := #[.slice none 0 0, .slice (some ⟨gb, 0, none⟩) 1 1]) sz_api_Func rfl (by intro u hu; simp at hu; rcases hu with rfl | rfl <;> rfl) (i := 0) rfl rfl) ?_
  refine Ol.nil ?_
  refine Cd.seq ?_
  refine Cd.region ?_
  refine Ol.p (fdl fd_api_Func_1) ?_
  refine Ol.p (ld one_L_api_Block (Rd.blk (i := 0) rfl rfl)) ?_
  refine Ol.p (ixn (ix := 0) sl_L_api_Block (Som.row (i := 1) rfl Nat.one_pos)) ?_
  refine Ol.p (fdp fd_api_Block_0) ?_
  refine Ol.p (ld (v := .slice (some ⟨gi, 0, none⟩) 1 1) one_L_api_Ins (Rd.row (i := 1) rfl rfl)) ?_
  refine Ol.p (bds (cs := #[.int .i64 3, .int .i64 2, .int .i64 0, .int .i64 0]) bs_api_Term zr_api_Term (hf := by kernel_rfl)) ?_
  refine Ol.p (bds (cs := #[.slice (some ⟨gi, 0, none⟩) 1 1, .int .i64 3, .int .i64 2, .int .i64 0, .int .i64 0]) bs_api_Block zr_api_Block (hf := by kernel_rfl)) ?_
  refine Ol.x (bsn [RBlk.val (B03 gi 2)] sl_L_api_Block zr_api_Block (by intro v hv; simp at hv; subst hv; rfl) rfl (by decide) (by decide)) ?_
  rintro _ _ ⟨gb2, rfl, rfl⟩
  refine Ol.p (bds (cs := #[.slice none 0 0, .slice (some ⟨gb2, 0, none⟩) 1 1]) bs_api_Func zr_api_Func (hf := by kernel_rfl)) ?_
  refine Ol.x (alc zr_api_Func) ?_
  rintro _ _ ⟨g2, rfl, rfl⟩
  refine Ol.s (stw (vs := #[.slice none 0 0, .slice (some ⟨gb2, 0, none⟩) 1 1]) sz_api_Func rfl (by intro u hu; simp at hu; rcases hu with rfl | rfl <;> rfl) (i := 0) rfl rfl) ?_
  refine Ol.nil ?_
  have hv := F03_vars (gb := gb) (gi := gi)
  have hf1 : ∀ {M : List Res} {w' : World}, Hp w w.heap.size (M ++ [blk g2 (.cells #[.slice none 0 0, .slice (some ⟨gb2, 0, none⟩) 1 1] 37), row (.slice (some ⟨gb2, 0, none⟩) 1 1) 34 5 1 ((B03 gi 2).cells), blk g1 (.cells #[.slice none 0 0, .slice (some ⟨gb, 0, none⟩) 1 1] 37), row (.slice (some ⟨gb, 0, none⟩) 1 1) 34 5 1 ((B03 gi 1).cells), row (.slice (some ⟨gi, 0, none⟩) 1 1) 25 8 1 (I03.flatMap RIns.cells)]) w' → FunAt w' w'.heap.size (F03 gb gi 1) := fun hh => F03_at (Reads.row hh (i := 3) rfl) (Reads.row hh (i := 4) rfl)
  have hf2 : ∀ {M : List Res} {w' : World}, Hp w w.heap.size (M ++ [blk g2 (.cells #[.slice none 0 0, .slice (some ⟨gb2, 0, none⟩) 1 1] 37), row (.slice (some ⟨gb2, 0, none⟩) 1 1) 34 5 1 ((B03 gi 2).cells), blk g1 (.cells #[.slice none 0 0, .slice (some ⟨gb, 0, none⟩) 1 1] 37), row (.slice (some ⟨gb, 0, none⟩) 1 1) 34 5 1 ((B03 gi 1).cells), row (.slice (some ⟨gi, 0, none⟩) 1 1) 25 8 1 (I03.flatMap RIns.cells)]) w' → FunAt w' w'.heap.size (F03 gb2 gi 2) := fun hh => F03_at (Reads.row hh (i := 1) rfl) (Reads.row hh (i := 4) rfl)
  have hr1 : decide (rightF (F03 gb gi 1) = 0) = true := by rw [F03_r1]; rfl
  have hr2 : decide (rightF (F03 gb2 gi 2) = 8) = true := by rw [F03_r2]; rfl
  have hv1 : decide (((varsF (F03 gb gi 1)).length : Int) = 1) = true := by rw [hv]; rfl
  refine Cd.seq ?_
  refine Cd.region ?_
  refine Ol.p (ldw ag_api_Func (i := 2) rfl rfl) ?_
  refine Ol.s (cl en_ir_Right (fun M w' hh => ir_Right_ct (f := F03 gb gi 1) (hf1 hh) (F03_fit (.inl rfl)))) ?_
  refine Ol.p eqi ?_
  refine Ol.p mvb ?_
  refine Ol.gp hr1 (ldw ag_api_Func (i := 0) rfl rfl) ?_
  refine Ol.gs hr1 (cl en_ir_Right (fun M w' hh => ir_Right_ct (f := F03 gb2 gi 2) (hf2 hh) (F03_fit (.inr rfl)))) ?_
  refine Ol.gp hr1 eqi ?_
  refine Ol.p (pkTb hr1) ?_
  refine Ol.p mvb ?_
  refine Ol.gp hr2 (ldw ag_api_Func (i := 2) rfl rfl) ?_
  refine Ol.gx hr2 (sp_call en_ir_Vars (fun M w' hh => ir_Vars_ct (f := F03 gb gi 1) (hf1 hh) (F03_fit (.inl rfl)))) ?_
  rintro _ _ ⟨_, rfl, A28, c28, rfl, rfl⟩
  refine Ol.gp hr2 (lens sl_L_int) ?_
  refine Ol.gp hr2 eqi ?_
  refine Ol.p (pkTb hr2) ?_
  refine Ol.p mvb ?_
  refine Ol.gp hv1 (ldw ag_api_Func (i := 3) rfl rfl) ?_
  refine Ol.gs hv1 (cl en_ir_Size (fun M w' hh => ir_Size_ct (f := F03 gb gi 1) (F03_at (Reads.row hh (i := 4) rfl) (Reads.row hh (i := 5) rfl)) (F03_fit (.inl rfl)))) ?_
  refine Ol.gp hv1 eqi ?_
  refine Ol.p (pkTb hv1) ?_
  refine Ol.p asb ?_
  refine Ol.nil ?_
  refine Cd.ret ⟨.bool _, ret1 rfl rfl, _, .nil, ?_, rfl⟩
  rw [F03_size]
  rfl
end
end Go.Proofs.YtcojedoejpcolaaGreat

/- The law IrParts, walked. -/
namespace Go.Proofs.YtcojedoejpcolaaGreat
set_option linter.unusedVariables false
set_option linter.unusedSimpArgs false
open Go Go.RowKit
set_option maxRecDepth 100000
section
theorem kit_Apart3 {w0 : World} {B cL : Nat} {AL : Option Addr} {x y z : Li} {X Y Z : List Value} (hx : X.length = x.m ∧ x.n ≤ x.m ∧ x.n < 2 ^ 39) (hy : Y.length = y.m ∧ y.n ≤ y.m ∧ y.n < 2 ^ 39) (hz : Z.length = z.m ∧ z.n ≤ z.m ∧ z.n < 2 ^ 39) :
    Cm Tryz.prog 43 #[.slice AL 3 cL] w0 B [row (.slice AL 3 cL) 22 1 3 [.slice x.A x.n x.c, .slice y.A y.n y.c, .slice z.A z.n z.c], row (.slice x.A x.m x.c) 3 1 x.m X, row (.slice y.A y.m y.c) 3 1 y.m Y, row (.slice z.A z.m z.c) 3 1 z.m Z] (Is (.bool true)) := by
  have key : ∀ k, k < 3 → k = 0 ∨ k = 1 ∨ k = 2 := fun k hk => by omega
  refine kit_ApartInts_cm (N := 3) (it := fun k => if k = 0 then x else if k = 1 then y else z) (X0 := fun k => if k = 0 then X else if k = 1 then Y else Z) (by omega) ?_ ?_ ?_
  · intro k hk
    rcases key k hk with rfl | rfl | rfl
    · exact hx.1
    · exact hy.1
    · exact hz.1
  · intro k hk
    rcases key k hk with rfl | rfl | rfl
    · exact hx.2.1
    · exact hy.2.1
    · exact hz.2.1
  · intro k hk
    rcases key k hk with rfl | rfl | rfl
    · exact hx.2.2
    · exact hy.2.2
    · exact hz.2.2
set_option maxHeartbeats 2000000 in
theorem law03_IrParts_ct {w : World} {i : RIns} {t : Tm} (hi : InsAt w i) : Ct Tryz.prog 6 #[i.val, t.val] w (Is (.bool true)) := by
  have hil := hi.len
  refine Ct.mk Tryz.func6 rfl rfl ?_
  refine Cd.seq ?_
  refine Cd.region ?_
  refine Ol.x bxg ?_
  rintro _ _ ⟨g2, rfl, rfl⟩
  refine Ol.x bxg ?_
  rintro _ _ ⟨g3, rfl, rfl⟩
  refine Ol.p asb ?_
  refine Ol.nil ?_
  refine Cd.seq ?_
  refine Cd.seq ?_
  refine Cd.region ?_
  refine Ol.p (fdl fd_api_Ins_6) ?_
  refine Ol.p (ld (v := .slice i.aA i.args.length i.aC) one_L_int (Rd.blk (i := 1) (k := 6) rfl rfl)) ?_
  refine Ol.p (lens sl_L_int) ?_
  refine Ol.p gti ?_
  refine Ol.nil ?_
  refine Cd.cond rfl (fun h => ?_) (fun h => ?_)
  · skip
    refine Cd.seq ?_
    refine Cd.region ?_
    refine Ol.s (cl en_law03_awake (fun M w' hh => law03_awake_ct)) ?_
    refine Ol.p asb ?_
    refine Ol.nil ?_
    exact Cd.ret ⟨.bool true, ret1 rfl rfl, [], Keep.nil, rfl, rfl⟩
  have hlen : i.args.length ≤ 700 := by
    have h : decide ((700 : Int) < (i.args.length : Int)) = false := h
    have := of_decide_eq_false h
    omega
  refine Cd.skip ?_
  refine Cd.seq ?_
  refine Cd.region ?_
  refine Ol.p (fdl fd_api_Ins_6) ?_
  refine Ol.p (ld (v := .slice i.aA i.args.length i.aC) one_L_int (Rd.blk (i := 1) (k := 6) rfl rfl)) ?_
  refine Ol.x (sp_call en_kit_LentInts (fun M w' hh => kit_LentInts_ct (l := i.args) (hi.args.now hh) (by omega))) ?_
  rintro _ _ ⟨_, rfl, A', c', rfl, rfl⟩
  refine Ol.p ass ?_
  refine Ol.nil ?_
  refine Cd.capl (i := 0) (A := A') (n := i.args.length + 12) (c := c') rfl fun hcap => ?_
  refine Cd.seq ?_
  refine Cd.region ?_
  refine Ol.p (ldw (cs := i.cells.toArray) ag_api_Ins (i := 2) rfl rfl) ?_
  refine Ol.x (alc zr_api_Ins) ?_
  rintro _ _ ⟨g6, rfl, rfl⟩
  refine Ol.s (stw (vs := i.cells.toArray) sz_api_Ins rfl i.one (i := 0) rfl rfl) ?_
  refine Ol.nil ?_
  refine Cd.seq ?_
  refine Cd.region ?_
  refine Ol.p mvs ?_
  refine Ol.p (fdl fd_api_Ins_6) ?_
  refine Ol.s (sto (i := 0) (k := 6) (v := .slice A' i.args.length c') (.inr sz_L_int) rfl rfl rfl (by simp [RIns.cells]) rfl) ?_
  refine Ol.nil ?_
  obtain ⟨g, hg⟩ : ∃ g, g = i.at_ A' c' := ⟨_, rfl⟩
  show Cd _ _ _ _ [blk g6 (.cells (i.at_ A' c').cells.toArray 25), lInt A' c' i.args, blk g3 (.cells t.cells.toArray 30), blk g2 (.cells i.cells.toArray 25)]
  rw [← hg]
  have hga : g.aA = A' := by rw [hg]; rfl
  have hgl : g.args = i.args := by rw [hg]; rfl
  have e1 : isIns g = isIns i := by rw [hg]; rfl
  have e2 : readsL g = readsL i := by rw [hg]; rfl
  have e3 : defI g = defI i := by rw [hg]; rfl
  have hgcal : g.callee = i.callee := by rw [hg]; rfl
  have hlent : ∀ {M L : List Res} {w' : World} {j : Nat}, Hp w w.heap.size (M ++ L) w' → L[j]? = some (lInt A' c' i.args) → InsAt w' g := fun hh hj => ⟨by rw [hga, hgl]; exact (Reads.row hh hj).lentI, by rw [hgl]; exact hil, by rw [hgcal]; exact hi.callee⟩
  obtain ⟨bi, hbi⟩ : ∃ bi, bi = isIns i := ⟨_, rfl⟩
  obtain ⟨bt, hbt⟩ : ∃ bt, bt = isTerm t := ⟨_, rfl⟩
  obtain ⟨rl, hrl⟩ : ∃ rl, rl = readsL i := ⟨_, rfl⟩
  obtain ⟨nl, hnl⟩ : ∃ nl, nl = needsL t := ⟨_, rfl⟩
  obtain ⟨tl, htl⟩ : ∃ tl, tl = toL t := ⟨_, rfl⟩
  obtain ⟨df, hdf⟩ : ∃ df, df = defI i := ⟨_, rfl⟩
  have l1 : rl.length ≤ 10 := by rw [hrl]; exact readsL_len i
  have l2 : nl.length ≤ 1 := by rw [hnl]; unfold needsL; cases isTerm t && !decide (t.a = 0) <;> simp
  have l3 : tl.length ≤ 2 := by rw [htl]; exact toL_len t
  have c1 : ∀ w', InsAt w' g → Ct Tryz.prog 30 #[g.val] w' (NewL 3 1 rl.length (ints rl)) := fun w' h => by
    rw [hrl, ← e2]; exact ir_Reads_ct h
  have c2 : ∀ w', Ct Tryz.prog 31 #[t.val] w' (NewL 3 1 nl.length (ints nl)) := fun w' => by
    rw [hnl]; exact ir_Needs_ct
  have c3 : ∀ w', Ct Tryz.prog 32 #[t.val] w' (NewL 3 1 tl.length (ints tl)) := fun w' => by
    rw [htl]; exact ir_To_ct
  have c4 : ∀ w', InsAt w' g → Ct Tryz.prog 33 #[g.val] w' (Is (.bool bi)) := fun w' h => by
    rw [hbi, ← e1]; exact ir_IsIns_ct h
  have c5 : ∀ w', InsAt w' i → Ct Tryz.prog 34 #[i.val] w' (Is (.bool bi)) := fun w' h => by
    rw [hbi]; exact ref03_IsIns_ct h.args (by omega)
  have c6 : ∀ w', Ct Tryz.prog 35 #[t.val] w' (Is (.bool bt)) := fun w' => by
    rw [hbt]; exact ir_IsTerm_ct
  have c7 : ∀ w', Ct Tryz.prog 36 #[t.val] w' (Is (.bool bt)) := fun w' => by
    rw [hbt]; exact ref03_IsTerm_ct
  have c8 : ∀ w', InsAt w' i → Ct Tryz.prog 38 #[i.val] w' (NewL 3 1 rl.length (ints rl)) := fun w' h => by
    rw [hrl]; exact ref03_Reads_ct h.args (by omega)
  have c9 : ∀ w', InsAt w' g → Ct Tryz.prog 39 #[g.val] w' (Is (.int .i64 df)) := fun w' h => by
    rw [hdf, ← e3]; exact ir_Defines_ct h
  have c10 : ∀ w', InsAt w' i → Ct Tryz.prog 40 #[i.val] w' (Is (.int .i64 df)) := fun w' h => by
    rw [hdf]; exact ref03_Defines_ct h.args (by omega)
  have c11 : ∀ w', Ct Tryz.prog 41 #[t.val] w' (NewL 3 1 nl.length (ints nl)) := fun w' => by
    rw [hnl]; exact ref03_Needs_ct
  have c12 : ∀ w', Ct Tryz.prog 42 #[t.val] w' (NewL 3 1 tl.length (ints tl)) := fun w' => by
    rw [htl]; exact ref03_To_ct
  refine Cd.seq ?_
  refine Cd.draw mixed 9 (fun opNo => match opNo with | 1 => some (NewL 3 1 rl.length (ints rl)) | 3 => some (NewL 3 1 nl.length (ints nl)) | 5 => some (NewL 3 1 tl.length (ints tl)) | _ => none) (fun _ => []) (by kernel_rfl) (by intro q V h; split at h <;> cases h; exact ⟨_, _, none, 0, rfl, rfl⟩; exact ⟨_, _, none, 0, rfl, rfl⟩; exact ⟨_, _, none, 0, rfl, rfl⟩) (fun u hu => ?_)
  refine Wk.p (ldw (cs := g.cells.toArray) ag_api_Ins (i := 0) rfl rfl) ?_
  refine Wk.x (V := NewL 3 1 rl.length (ints rl)) hu (sp_call (vs := [g.val]) en_ir_Reads (fun M w' hh => c1 w' (hlent (j := 1) hh rfl))) ?_
  rintro _ _ hu1 ⟨A24, c24, rfl, rfl⟩
  refine Wk.p (ldw (cs := t.cells.toArray) ag_api_Term (i := 2) rfl rfl) ?_
  refine Wk.x (V := NewL 3 1 nl.length (ints nl)) hu (sp_call (vs := [t.val]) en_ir_Needs (fun M w' hh => c2 w')) ?_
  rintro _ _ hu3 ⟨A26, c26, rfl, rfl⟩
  refine Wk.p (ldw (cs := t.cells.toArray) ag_api_Term (i := 2) rfl rfl) ?_
  refine Wk.x (V := NewL 3 1 tl.length (ints tl)) hu (sp_call (vs := [t.val]) en_ir_To (fun M w' hh => c3 w')) ?_
  rintro _ _ hu5 ⟨A28, c28, rfl, rfl⟩
  refine Wk.p ass ?_
  refine Wk.p ass ?_
  refine Wk.p ass ?_
  refine Wk.nil ?_
  rw [needs_cons hu5, needs_cons hu3, needs_cons hu1, needs_none]
  refine Ol.nil ?_
  refine Cd.seq ?_
  refine Cd.region ?_
  refine Ol.p (ldw (cs := g.cells.toArray) ag_api_Ins (i := 3) rfl rfl) ?_
  refine Ol.x (sp_call (vs := [g.val]) en_ir_Reads (fun M w' hh => c1 w' (hlent (j := 4) hh rfl))) ?_
  rintro _ _ ⟨_, rfl, A30, c30, rfl, rfl⟩
  refine Ol.p ass ?_
  refine Ol.nil ?_
  have q5 : (bi == bi) = true := by simp
  have q10 : (bt == bt) = true := by simp
  have q16 : decide (rl = rl) = true := by simp
  have q23 : decide (df = df) = true := by simp
  have q29 : decide (nl = nl) = true := by simp
  have q36 : decide (tl = tl) = true := by simp
  refine Cd.seq ?_
  refine Cd.draw mixed 38 (fun opNo => match opNo with | 1 => some (Is (.bool bi)) | 3 => some (Is (.bool bi)) | 7 => some (Is (.bool bt)) | 9 => some (Is (.bool bt)) | 15 => some (NewL 3 1 rl.length (ints rl)) | 16 => some (Is (.bool (decide (rl = rl)))) | 20 => some (Is (.int .i64 df)) | 22 => some (Is (.int .i64 df)) | 28 => some (NewL 3 1 nl.length (ints nl)) | 29 => some (Is (.bool (decide (nl = nl)))) | 34 => some (NewL 3 1 tl.length (ints tl)) | 35 => some (Is (.bool (decide (tl = tl)))) | _ => none) (fun opNo => match opNo with | 16 => [15] | 29 => [28] | 35 => [34] | _ => []) (by kernel_rfl) (by intro q V h; split at h <;> cases h; exact ⟨_, [], rfl, rfl⟩; exact ⟨_, [], rfl, rfl⟩; exact ⟨_, [], rfl, rfl⟩; exact ⟨_, [], rfl, rfl⟩; exact ⟨_, _, none, 0, rfl, rfl⟩; exact ⟨_, [], rfl, rfl⟩; exact ⟨_, [], rfl, rfl⟩; exact ⟨_, [], rfl, rfl⟩; exact ⟨_, _, none, 0, rfl, rfl⟩; exact ⟨_, [], rfl, rfl⟩; exact ⟨_, _, none, 0, rfl, rfl⟩; exact ⟨_, [], rfl, rfl⟩) (fun u hu => ?_)
  refine Wk.p (ldw (cs := g.cells.toArray) ag_api_Ins (i := 4) rfl rfl) ?_
  refine Wk.x (V := Is (.bool bi)) hu (sp_call (vs := [g.val]) en_ir_IsIns (fun M w' hh => c4 w' (hlent (j := 5) hh rfl))) ?_
  rintro _ _ hu1 ⟨rfl, rfl⟩
  refine Wk.p (ldw (cs := i.cells.toArray) ag_api_Ins (i := 7) rfl rfl) ?_
  refine Wk.x (V := Is (.bool bi)) hu (sp_call (vs := [i.val]) en_ref03_IsIns (fun M w' hh => c5 w' (hi.now hh))) ?_
  rintro _ _ hu3 ⟨rfl, rfl⟩
  refine Wk.p (eqb bo_bool) ?_
  refine Wk.p mvb ?_
  refine Wk.gp q5 (ldw (cs := t.cells.toArray) ag_api_Term (i := 6) rfl rfl) ?_
  refine Wk.gx (V := Is (.bool bt)) hu q5 (sp_call (vs := [t.val]) en_ir_IsTerm (fun M w' hh => c6 w')) ?_
  rintro _ _ hu7 ⟨rfl, rfl⟩
  refine Wk.gp q5 (ldw (cs := t.cells.toArray) ag_api_Term (i := 6) rfl rfl) ?_
  refine Wk.gx (V := Is (.bool bt)) hu q5 (sp_call (vs := [t.val]) en_ref03_IsTerm (fun M w' hh => c7 w')) ?_
  rintro _ _ hu9 ⟨rfl, rfl⟩
  refine Wk.gp q5 (eqb bo_bool) ?_
  refine Wk.p (pkTb q5) ?_
  refine Wk.p mvb ?_
  refine Wk.gp q10 mvs ?_
  refine Wk.gp q10 (ldw (cs := i.cells.toArray) ag_api_Ins (i := 7) rfl rfl) ?_
  refine Wk.gx (V := NewL 3 1 rl.length (ints rl)) hu q10 (sp_call (vs := [i.val]) en_ref03_Reads (fun M w' hh => c8 w' (hi.now hh))) ?_
  rintro _ _ hu15 ⟨A46, c46, rfl, rfl⟩
  refine Wk.gxn (V := Is (.bool (decide (rl = rl)))) hu q10 (l := [15]) rfl (by simp) (by rw [needs_cons hu15, needs_none]; exact (sp_call en_kit_SameInts (fun M w' hh => kit_SameInts_ct (a := rl) (b := rl) (Reads.row hh (i := 4) rfl) (Reads.row hh (i := 0) rfl) (by omega) (by omega)))) ?_
  rintro _ _ hu16 ⟨rfl, rfl⟩
  refine Wk.p (pkTb q10) ?_
  refine Wk.p mvb ?_
  refine Wk.gp q16 (ldw (cs := g.cells.toArray) ag_api_Ins (i := 4) rfl rfl) ?_
  refine Wk.gx (V := Is (.int .i64 df)) hu q16 (sp_call (vs := [g.val]) en_ir_Defines (fun M w' hh => c9 w' (hlent (j := 5) hh rfl))) ?_
  rintro _ _ hu20 ⟨rfl, rfl⟩
  refine Wk.gp q16 (ldw (cs := i.cells.toArray) ag_api_Ins (i := 7) rfl rfl) ?_
  refine Wk.gx (V := Is (.int .i64 df)) hu q16 (sp_call (vs := [i.val]) en_ref03_Defines (fun M w' hh => c10 w' (hi.now hh))) ?_
  rintro _ _ hu22 ⟨rfl, rfl⟩
  refine Wk.gp q16 eqi ?_
  refine Wk.p (pkTb q16) ?_
  refine Wk.p mvb ?_
  refine Wk.gp q23 mvs ?_
  refine Wk.gp q23 (ldw (cs := t.cells.toArray) ag_api_Term (i := 6) rfl rfl) ?_
  refine Wk.gx (V := NewL 3 1 nl.length (ints nl)) hu q23 (sp_call (vs := [t.val]) en_ref03_Needs (fun M w' hh => c11 w')) ?_
  rintro _ _ hu28 ⟨A59, c59, rfl, rfl⟩
  refine Wk.gxn (V := Is (.bool (decide (nl = nl)))) hu q23 (l := [28]) rfl (by simp) (by rw [needs_cons hu28, needs_none]; exact (sp_call en_kit_SameInts (fun M w' hh => kit_SameInts_ct (a := nl) (b := nl) (Reads.row hh (i := 3) rfl) (Reads.row hh (i := 0) rfl) (by omega) (by omega)))) ?_
  rintro _ _ hu29 ⟨rfl, rfl⟩
  refine Wk.p (pkTb q23) ?_
  refine Wk.p mvb ?_
  refine Wk.gp q29 mvs ?_
  refine Wk.gp q29 (ldw (cs := t.cells.toArray) ag_api_Term (i := 6) rfl rfl) ?_
  refine Wk.gx (V := NewL 3 1 tl.length (ints tl)) hu q29 (sp_call (vs := [t.val]) en_ref03_To (fun M w' hh => c12 w')) ?_
  rintro _ _ hu34 ⟨A65, c65, rfl, rfl⟩
  refine Wk.gxn (V := Is (.bool (decide (tl = tl)))) hu q29 (l := [34]) rfl (by simp) (by rw [needs_cons hu34, needs_none]; exact (sp_call en_kit_SameInts (fun M w' hh => kit_SameInts_ct (a := tl) (b := tl) (Reads.row hh (i := 2) rfl) (Reads.row hh (i := 0) rfl) (by omega) (by omega)))) ?_
  rintro _ _ hu35 ⟨rfl, rfl⟩
  refine Wk.p (pkTb q29) ?_
  refine Wk.p asb ?_
  refine Wk.nil ?_
  rw [needs_cons hu35, needs_cons hu34, needs_cons hu29, needs_cons hu28, needs_cons hu22, needs_cons hu20, needs_cons hu16, needs_cons hu15, needs_cons hu9, needs_cons hu7, needs_cons hu3, needs_cons hu1, needs_none]
  refine Ol.nil ?_
  refine Cd.seq ?_
  refine Cd.region ?_
  refine Ol.p mvb ?_
  refine Ol.p mvb ?_
  refine Ol.gp q36 mvs ?_
  refine Ol.gp q36 (fdl fd_api_Ins_6) ?_
  refine Ol.gp q36 (ld (v := .slice i.aA i.args.length i.aC) one_L_int (Rd.blk (i := 10) (k := 6) rfl rfl)) ?_
  refine Ol.gs q36 (cl en_kit_KeptInts (fun M w' hh => kit_KeptInts_ct (l := i.args) (Reads.row hh (i := 8) rfl) hcap (hi.args.now hh) (by omega))) ?_
  refine Ol.p (pkTb q36) ?_
  refine Ol.p mvb ?_
  refine Ol.gp rfl mvs ?_
  refine Ol.gp rfl mvs ?_
  refine Ol.gp rfl mvs ?_
  refine Ol.gx rfl (bsv [.slice A24 rl.length c24, .slice A30 rl.length c30, .slice A' i.args.length c'] sl_L_L_int zr_L_int (by simp [Value.cells])) ?_
  rintro _ _ ⟨g79, rfl, rfl⟩
  refine Ol.gx rfl (sp_callm (vs := [.slice (some ⟨g79, 0, none⟩) 3 3]) (Lin := [row (.slice (some ⟨g79, 0, none⟩) 3 3) 22 1 3 [.slice A24 rl.length c24, .slice A30 rl.length c30, .slice A' i.args.length c'], row (.slice A24 rl.length c24) 3 1 rl.length (ints rl), row (.slice A30 rl.length c30) 3 1 rl.length (ints rl), lInt A' c' i.args]) (L2 := [row (.slice A65 tl.length c65) 3 1 tl.length (ints tl), row (.slice A59 nl.length c59) 3 1 nl.length (ints nl), row (.slice A46 rl.length c46) 3 1 rl.length (ints rl), row (.slice A28 tl.length c28) 3 1 tl.length (ints tl), row (.slice A26 nl.length c26) 3 1 nl.length (ints nl), blk g6 (.cells g.cells.toArray 25), blk g3 (.cells t.cells.toArray 30), blk g2 (.cells i.cells.toArray 25)]) en_kit_ApartInts (perm_count fun _ x => by simp only [List.set_cons_succ, List.set_cons_zero, List.count_append, List.count_cons, List.count_nil, List.cons_append, List.nil_append]; omega) (kit_Apart3 (x := ⟨A24, rl.length, rl.length, c24⟩) (y := ⟨A30, rl.length, rl.length, c30⟩) (z := ⟨A', i.args.length, i.args.length + 12, c'⟩) ⟨by simp [ints], Nat.le_refl _, by show rl.length < 2 ^ 39; omega⟩ ⟨by simp [ints], Nat.le_refl _, by show rl.length < 2 ^ 39; omega⟩ ⟨by simp [ints, mkL], by show i.args.length ≤ i.args.length + 12; omega, by show i.args.length < 2 ^ 39; omega⟩)) ?_
  rintro _ _ ⟨_, rfl, rfl, rfl⟩
  refine Ol.p (pkTb rfl) ?_
  refine Ol.p mvb ?_
  refine Ol.gs rfl (cl en_law03_awake (fun M w' hh => law03_awake_ct)) ?_
  refine Ol.p (pkTb rfl) ?_
  refine Ol.p asb ?_
  refine Ol.nil ?_
  exact Cd.ret ⟨.bool true, ret1 rfl rfl, [], Keep.nil, rfl, rfl⟩
end
end Go.Proofs.YtcojedoejpcolaaGreat

/- A region whose order is drawn, in which an operation may take what another one made, or what was there (tokens), and turn it: one walk serves every order. -/
namespace Go.Proofs.YtcojedoejpcolaaGreat
set_option linter.unusedVariables false
open Go Go.RowKit

def liveU (tk : Nat → List Nat) (E : List Nat) : List Nat := E.filter fun c => !(E.any fun k => decide (c ∈ tk k))
theorem mem_liveU {tk : Nat → List Nat} {E : List Nat} {c : Nat} : c ∈ liveU tk E ↔ c ∈ E ∧ ∀ k ∈ E, c ∉ tk k := by
  unfold liveU
  simp [List.mem_filter]
def WkU (C : Ctx) (all : Array Oper) (ex : Nat → Option (Value → List Res → Prop)) (nd : Nat → List Nat) (tk : Nat → List Nat) (u : Got) (L0 : List Res) : Nat → List Oper → Env → List Nat → (Env → List Nat → Prop) → Prop
  | _, [], σ, E, K => K σ E
  | k, o :: rest, σ, E, K =>
    bif wants all σ o then
      (∀ c ∈ nd k, c ∈ liveU tk E) ∧ okDst C.N o.dst = true ∧
      match ex k with
      | some V => Sp C.P C.w0 C.B o σ (needs u (nd k) L0) (Adds V (needs u ((nd k).filter fun c => !decide (c ∈ tk k)) L0)) ∧ WkU C all ex nd tk u L0 (k + 1) rest (updO σ o.dst (u k).1) (k :: E) K
      | none => ∃ v, Sd C.P C.w0 C.B o σ (needs u (nd k) L0) v ∧ WkU C all ex nd tk u L0 (k + 1) rest (updO σ o.dst v) E K
    else okDst C.N o.dst = true ∧ WkU C all ex nd tk u L0 (k + 1) rest (updO σ o.dst undef) E K
def StepU (C : Ctx) (all : Array Oper) (ex : Nat → Option (Value → List Res → Prop)) (nd : Nat → List Nat) (tk : Nat → List Nat) (u : Got) (L0 : List Res) (k : Nat) (o : Oper) (σ : Env) (E : List Nat) (v : Value) : Prop :=
  okDst C.N o.dst = true ∧
  ((wants all σ o = true ∧ (∀ c ∈ nd k, c ∈ liveU tk E) ∧ ((∃ V, ex k = some V ∧ v = (u k).1 ∧ Sp C.P C.w0 C.B o σ (needs u (nd k) L0) (Adds V (needs u ((nd k).filter fun c => !decide (c ∈ tk k)) L0))) ∨ (ex k = none ∧ Sd C.P C.w0 C.B o σ (needs u (nd k) L0) v))) ∨
   (wants all σ o = false ∧ v = undef))
theorem WkU.vals {C : Ctx} {all : Array Oper} {ex : Nat → Option (Value → List Res → Prop)} {nd : Nat → List Nat} {tk : Nat → List Nat} {u : Got} {L0 : List Res} {K : Env → List Nat → Prop} :
    ∀ (l : List Oper) (k : Nat) (σ : Env) (E : List Nat), WkU C all ex nd tk u L0 k l σ E K →
      ∃ vs : List Value, vs.length = l.length ∧ (∀ i o v, l[i]? = some o → vs[i]? = some v → StepU C all ex nd tk u L0 (k + i) o (envAt (l.take i) (vs.take i) σ) (exAt all ex k (l.take i) (vs.take i) σ E) v) ∧ K (envAt l vs σ) (exAt all ex k l vs σ E)
  | [], k, σ, E, h => ⟨[], rfl, fun i o v h => by simp at h, h⟩
  | o :: l, k, σ, E, h => by
    have key : ∀ v E', StepU C all ex nd tk u L0 k o σ E v → E' = made all ex k o σ E → WkU C all ex nd tk u L0 (k + 1) l (updO σ o.dst v) E' K →
        ∃ vs : List Value, vs.length = (o :: l).length ∧ (∀ i o' v, (o :: l)[i]? = some o' → vs[i]? = some v → StepU C all ex nd tk u L0 (k + i) o' (envAt ((o :: l).take i) (vs.take i) σ) (exAt all ex k ((o :: l).take i) (vs.take i) σ E) v) ∧ K (envAt (o :: l) vs σ) (exAt all ex k (o :: l) vs σ E) := by
      rintro v E' hs rfl hw
      obtain ⟨vs, h1, h2, h3⟩ := WkU.vals l (k + 1) _ _ hw
      refine ⟨v :: vs, by simp [h1], ?_, h3⟩
      intro i o' v' hi hv
      cases i with
      | zero =>
        simp only [List.getElem?_cons_zero, Option.some.injEq] at hi hv
        subst hi; subst hv
        exact hs
      | succ i =>
        have := h2 i o' v' (by simpa using hi) (by simpa using hv)
        rw [show k + 1 + i = k + (i + 1) from by omega] at this
        exact this
    unfold WkU at h
    cases hw : wants all σ o with
    | true =>
      simp only [hw, cond_true] at h
      obtain ⟨hn, hd, h⟩ := h
      cases hx : ex k with
      | some V =>
        simp only [hx] at h
        exact key (u k).1 (k :: E) ⟨hd, .inl ⟨hw, hn, .inl ⟨V, hx, rfl, h.1⟩⟩⟩ (by simp [made, hw, hx]) h.2
      | none =>
        simp only [hx] at h
        obtain ⟨v, hs, h⟩ := h
        exact key v E ⟨hd, .inl ⟨hw, hn, .inr ⟨hx, hs⟩⟩⟩ (by simp [made, hx]) h
    | false =>
      simp only [hw, cond_false] at h
      exact key undef E ⟨h.1, .inr ⟨hw, rfl⟩⟩ (by simp [made, hw]) h.2

/-! ### What must be so: a closed test -/
def drawOkU (ops : Array Oper) (m : Nat) (nd : Nat → List Nat) (tk : Nat → List Nat) (E0 : List Nat) : Bool :=
  let b := bef ops
  drawOk ops m (fun k => (nd k).filter fun c => Nat.blt c 1000) && Nat.ble ops.size 1000 && (E0.eraseDups.length == E0.length) && E0.all (fun c => Nat.ble 1000 c && (tk c).isEmpty) &&
  (List.range m).all fun k => ((nd k).eraseDups.length == (nd k).length) && (nd k).all (fun c => Nat.blt c 1000 || E0.contains c) &&
    (tk k).all fun c => (nd k).contains c && !(Nat.beq c k) && (List.range m).all fun j => Nat.beq j k || !(nd j).contains c || (Nat.blt j k && (b.getD k 0).testBit j)
structure OkU (ops : Array Oper) (m : Nat) (nd : Nat → List Nat) (tk : Nat → List Nat) (E0 : List Nat) : Prop where
  ok : Ok ops m (fun k => (nd k).filter fun c => Nat.blt c 1000)
  big : ops.size ≤ 1000
  e0 : E0.Nodup
  tok : ∀ c ∈ E0, 1000 ≤ c ∧ tk c = []
  nodu : ∀ k, k < m → (nd k).Nodup
  has : ∀ k, k < m → ∀ c ∈ nd k, c < 1000 ∨ c ∈ E0
  tak : ∀ k, k < m → ∀ c, c ∈ tk k → c ∈ nd k ∧ c ≠ k ∧ ∀ j, j < m → j ≠ k → c ∈ nd j → j < k ∧ Anc ops k j
theorem OkU.mk' {ops : Array Oper} {m : Nat} {nd : Nat → List Nat} {tk : Nat → List Nat} {E0 : List Nat} (h : drawOkU ops m nd tk E0 = true) : OkU ops m nd tk E0 := by
  unfold drawOkU at h
  simp only [Bool.and_eq_true, List.all_eq_true, beq_iff_eq, List.mem_range] at h
  obtain ⟨⟨⟨⟨h1, h2⟩, h3⟩, h4⟩, h5⟩ := h
  have blt_lt : ∀ {a b : Nat}, Nat.blt a b = true → a < b := fun h => Nat.le_of_ble_eq_true h
  refine ⟨Ok.mk' h1, Nat.le_of_ble_eq_true h2, eraseDups_nodup h3, fun c hc => ⟨Nat.le_of_ble_eq_true (h4 c hc).1, by simpa using (h4 c hc).2⟩, fun k hk => eraseDups_nodup (h5 k hk).1.1, fun k hk c hc => ?_, fun k hk c hc => ?_⟩
  · have := (h5 k hk).1.2 c hc
    simp only [Bool.or_eq_true, List.contains_eq_mem, decide_eq_true_eq] at this
    exact this.imp blt_lt id
  · have := (h5 k hk).2 c hc
    simp only [Bool.and_eq_true, List.contains_eq_mem, decide_eq_true_eq, List.all_eq_true, List.mem_range, Bool.or_eq_true, Bool.not_eq_true', decide_eq_false_iff_not] at this
    obtain ⟨⟨h6, h7⟩, h8⟩ := this
    refine ⟨h6, fun e => ?_, fun j hj hne hcj => ?_⟩
    · subst e
      simp [Nat.beq_refl] at h7
    · rcases h8 j hj with (h9 | h9) | h9
      · exact absurd (Nat.eq_of_beq_eq_true h9) hne
      · exact absurd hcj h9
      · exact ⟨blt_lt h9.1, bef_anc h9.2⟩

/-! ### Every order -/
section
variable {C : Ctx} {l : List Oper} {m : Nat} {nd : Nat → List Nat} {tk : Nat → List Nat} {E0 : List Nat} {ex : Nat → Option (Value → List Res → Prop)} {σ : Env} {L0 : List Res} {K : Env → List Nat → Prop}
structure GoodU (C : Ctx) (l : List Oper) (m : Nat) (ex : Nat → Option (Value → List Res → Prop)) (nd : Nat → List Nat) (tk : Nat → List Nat) (E0 : List Nat) (L0 : List Res) (σ : Env) (K : Got → Env → List Nat → Prop) (u : Got) (vs : List Value) : Prop where
  len : vs.length = (l.take m).length
  step : ∀ (i : Nat) (o : Oper) (v : Value), (l.take m)[i]? = some o → vs[i]? = some v → StepU C l.toArray ex nd tk u L0 i o (envAt ((l.take m).take i) (vs.take i) σ) (exAt l.toArray ex 0 ((l.take m).take i) (vs.take i) σ E0) v
  fin : K u (envAt (l.take m) vs σ) (exAt l.toArray ex 0 (l.take m) vs σ E0)
structure MidU (C : Ctx) (l : List Oper) (m : Nat) (ex : Nat → Option (Value → List Res → Prop)) (nd : Nat → List Nat) (tk : Nat → List Nat) (E0 : List Nat) (L0 : List Res) (σ : Env) (K : Got → Env → List Nat → Prop) (listed : Array Bool) (u : Got) (Ex : List Nat) (a : Act) (w : World) : Prop where
  size : a.tmps.size = C.N
  valid : Valid ex u
  nodup : Ex.Nodup
  sub : ∀ c ∈ Ex, (c < m ∧ Ls listed c) ∨ c ∈ E0
  old : ∀ c ∈ E0, c ∈ Ex
  base : ∀ t, (∀ (j : Nat) (o : Oper), j < m → l[j]? = some o → Ls listed j → o.dst ≠ some t) → a.tmps.getD t undef = σ t
  vals : ∀ u', Valid ex u' → (∀ c ∈ Ex, u' c = u c) → ∀ vs, GoodU C l m ex nd tk E0 L0 σ K u' vs → ∀ (j : Nat) (o : Oper) (v : Value), j < m → l[j]? = some o → vs[j]? = some v → Ls listed j →
    (∀ t, o.dst = some t → a.tmps.getD t undef = v) ∧ (j ∈ Ex ↔ j ∈ exAt l.toArray ex 0 (l.take m) vs σ E0)
  heap : Hp C.w0 C.B (hid C a ++ needs u (liveU tk Ex) L0) w
theorem MidU.read {Kk : Got → Env → List Nat → Prop} {listed : Array Bool} {u : Got} {Ex : List Nat} {a : Act} {w : World} (ok : OkU l.toArray m nd tk E0) (h : MidU C l m ex nd tk E0 L0 σ Kk listed u Ex a w) (hc : Shut l.toArray listed) {i : Nat} (hi : i ∈ Region.ready .any l.toArray listed) (him : i < m) {o : Oper} (ho : l[i]? = some o)
    {u' : Got} (hu' : Valid ex u') (hag : ∀ c ∈ Ex, u' c = u c) {vs : List Value} (hg : GoodU C l m ex nd tk E0 L0 σ Kk u' vs) {t : Nat} (ht : ∀ (j : Nat) (o' : Oper), j < m → l[j]? = some o' → o'.dst = some t → j < i ∧ Anc l.toArray i j) :
    a.tmps.getD t undef = envAt ((l.take m).take i) (vs.take i) σ t := by
  by_cases hex : ∃ (j : Nat) (o' : Oper), j < m ∧ l[j]? = some o' ∧ o'.dst = some t
  · obtain ⟨j, o', hjm, hj, hd⟩ := hex
    obtain ⟨hlt, hanc⟩ := ht j o' hjm hj hd
    have hls := ready_anc hc hi hanc
    have hvl : j < vs.length := by
      rw [hg.len, List.length_take]
      have : j < l.length := (List.getElem?_eq_some_iff.1 hj).1
      omega
    have hv : vs[j]? = some vs[j] := List.getElem?_eq_getElem hvl
    rw [((h.vals u' hu' hag vs hg j o' _ hjm hj hv hls).1 t hd)]
    refine (envAt_one _ _ _ t j o' vs[j] ?_ ?_ hd ?_).symm
    · rw [List.getElem?_take, if_pos hlt]; exact take_get hjm hj
    · rw [List.getElem?_take, if_pos hlt]; exact hv
    · intro j' o'' hj' hne hd'
      obtain ⟨_, h2, h3⟩ := take_take_get hj'
      exact ok.ok.uniq j' o'' h2 (by simpa using h3) j o' hjm (by simpa using hj) (fun e => hne e.symm) t hd hd'
  · rw [h.base t (fun j o' hj ho' _ hd => hex ⟨j, o', hj, ho', hd⟩)]
    refine (envAt_none _ _ _ t fun j o' hj hd => ?_).symm
    obtain ⟨_, h2, h3⟩ := take_take_get hj
    exact hex ⟨j, o', h2, h3, hd⟩
theorem exAt_atU {vs : List Value} {i : Nat} {o : Oper} {v : Value} (hE : i ∉ E0) (ho : (l.take m)[i]? = some o) (hv : vs[i]? = some v) : i ∈ exAt l.toArray ex 0 (l.take m) vs σ E0 ↔ wants l.toArray (envAt ((l.take m).take i) (vs.take i) σ) o = true ∧ (ex i).isSome = true := by
  rw [exAt_mem]
  constructor
  · rintro (h | ⟨i', o', v', h1, h2, h3, h4, h5⟩)
    · exact absurd h hE
    · obtain rfl : i = i' := by omega
      rw [ho] at h1; cases h1
      exact ⟨h4, h5⟩
  · rintro ⟨h1, h2⟩
    exact .inr ⟨i, o, v, ho, hv, by omega, h1, h2⟩
theorem MidU.put {Kk : Got → Env → List Nat → Prop} {listed : Array Bool} {u u1 : Got} {Ex Ex1 : List Nat} {a : Act} {w w' : World} {i : Nat} {o : Oper} {v : Value} (ok : OkU l.toArray m nd tk E0) (h : MidU C l m ex nd tk E0 L0 σ Kk listed u Ex a w) (hlt : i < listed.size) (hi : ¬ Ls listed i) (him : i < m) (ho : l[i]? = some o) (hd : okDst C.N o.dst = true)
    (hv1 : Valid ex u1) (hnd : Ex1.Nodup) (hcase : (Ex1 = Ex ∧ u1 = u) ∨ (Ex1 = i :: Ex ∧ ∀ c ∈ Ex, u1 c = u c))
    (hvi : ∀ u', Valid ex u' → (∀ c ∈ Ex1, u' c = u1 c) → ∀ vs, GoodU C l m ex nd tk E0 L0 σ Kk u' vs → ∀ v', vs[i]? = some v' → v' = v ∧ (i ∈ Ex1 ↔ i ∈ exAt l.toArray ex 0 (l.take m) vs σ E0))
    (hh : Hp C.w0 C.B (hid C a ++ needs u1 (liveU tk Ex1) L0) w') : MidU C l m ex nd tk E0 L0 σ Kk (listed.setIfInBounds i true) u1 Ex1 (a.put o.dst v) w' := by
  refine ⟨by rw [put_size]; exact h.size, hv1, hnd, ?_, ?_, ?_, ?_, by rw [hid_put]; exact hh⟩
  · intro c hc
    rw [Ls.set_iff hlt]
    rcases hcase with ⟨rfl, _⟩ | ⟨rfl, _⟩
    · exact (h.sub c hc).imp (fun ⟨h1, h2⟩ => ⟨h1, .inr h2⟩) id
    · rcases List.mem_cons.1 hc with rfl | hc
      · exact .inl ⟨him, .inl rfl⟩
      · exact (h.sub c hc).imp (fun ⟨h1, h2⟩ => ⟨h1, .inr h2⟩) id
  · intro c hc
    rcases hcase with ⟨rfl, _⟩ | ⟨rfl, _⟩
    · exact h.old c hc
    · exact List.mem_cons_of_mem _ (h.old c hc)
  · intro t ht
    rw [put_read h.size hd, if_neg (ht i o him ho ((Ls.set_iff hlt).2 (.inl rfl)))]
    exact h.base t (fun j o' hj ho' hl => ht j o' hj ho' ((Ls.set_iff hlt).2 (.inr hl)))
  · intro u' hu' hag vs hg j o' v' hj ho' hv' hl
    have hag' : ∀ c ∈ Ex, u' c = u c := fun c hc => by
      rcases hcase with ⟨rfl, rfl⟩ | ⟨rfl, h2⟩
      · exact hag c hc
      · rw [hag c (by simp [hc]), h2 c hc]
    by_cases hij : j = i
    · subst hij
      rw [ho] at ho'; cases ho'
      obtain ⟨h1, h2⟩ := hvi u' hu' hag vs hg v' hv'
      subst h1
      exact ⟨fun t ht => by rw [put_read h.size hd, if_pos ht], h2⟩
    · rw [Ls.set_iff hlt] at hl
      have hl := hl.resolve_left hij
      obtain ⟨h1, h2⟩ := h.vals u' hu' hag' vs hg j o' v' hj ho' hv' hl
      refine ⟨fun t ht => ?_, ?_⟩
      · rw [put_read h.size hd, if_neg (ok.ok.uniq i o him (by simpa using ho) j o' hj (by simpa using ho') hij t ht)]
        exact h1 t ht
      · rw [← h2]
        rcases hcase with ⟨rfl, _⟩ | ⟨rfl, _⟩
        · exact Iff.rfl
        · simp [hij]
theorem liveU_perm {E E' : List Nat} (h : E.Perm E') : (liveU tk E).Perm (liveU tk E') := by
  unfold liveU
  have : (fun c => !(E.any fun k => decide (c ∈ tk k))) = fun c => !(E'.any fun k => decide (c ∈ tk k)) := by
    funext c
    congr 1
    rw [Bool.eq_iff_iff, List.any_eq_true, List.any_eq_true]
    exact ⟨fun ⟨k, h1, h2⟩ => ⟨k, h.mem_iff.1 h1, h2⟩, fun ⟨k, h1, h2⟩ => ⟨k, h.mem_iff.2 h1, h2⟩⟩
  rw [this]
  exact h.filter _
theorem needs_permU {u : Got} {E E' : List Nat} (h : E.Perm E') : (needs u E L0).Perm (needs u E' L0) := by
  unfold needs
  exact List.Perm.append_right _ (List.Perm.flatMap_right _ h)
theorem tail_anyU (ok : OkU l.toArray m nd tk E0) {F : Fence} {Q : Exit → Act → World → Prop} (fuel j : Nat) (listed : Array Bool) (a : Act) (w : World) (h1 : listed.size = l.length) (h2 : Shut l.toArray listed) (h3 : ∀ k, Ls listed k ↔ k < j) (h4 : m ≤ j) (h5 : j ≤ l.length) (h6 : l.length ≤ j + fuel)
    (h : wpListIn F 0 C.P l.toArray Q (l.drop j) a w) : wpAnyIn F 0 C.P .any l.toArray Q fuel listed a w := tail_any ok.ok fuel j listed a w h1 h2 h3 h4 h5 h6 h
theorem draw_endU {Q : Exit → Act → World → Prop} {Kk : Got → Env → List Nat → Prop} (ok : OkU l.toArray m nd tk E0) (hgood : ∀ u, Valid ex u → ∃ vs, GoodU C l m ex nd tk E0 L0 σ Kk u vs)
    (hK : ∀ u σ' E a w, Kk u σ' E → Agree a σ' → St C (needs u (liveU tk E) L0) a w → wpListIn (FR C.r) 0 C.P l.toArray Q (l.drop m) a w)
    (listed : Array Bool) (u : Got) (Ex : List Nat) (a : Act) (w : World) (fuel : Nat) (hs : listed.size = l.length) (hc : Shut l.toArray listed) (hm : ∀ k, Ls listed k → k < m) (hall : ∀ j, j < m → Ls listed j) (hf : l.length ≤ m + fuel)
    (h : MidU C l m ex nd tk E0 L0 σ Kk listed u Ex a w) : wpAnyIn (FR C.r) 0 C.P .any l.toArray Q fuel listed a w := by
  have hml : m ≤ l.length := by simpa using ok.ok.le
  have hbig : l.length ≤ 1000 := by simpa using ok.big
  obtain ⟨vs, hg⟩ := hgood u h.valid
  have hvl : vs.length = m := by rw [hg.len, List.length_take]; omega
  refine tail_anyU ok fuel m listed a w hs hc (fun k => ⟨hm k, hall k⟩) (Nat.le_refl _) hml hf ?_
  refine hK u _ _ a w hg.fin ?_ ⟨h.size, ?_⟩
  · intro t
    by_cases hex : ∃ (j : Nat) (o' : Oper), j < m ∧ l[j]? = some o' ∧ o'.dst = some t
    · obtain ⟨j, o', hjm, hj, hd⟩ := hex
      have hv : vs[j]? = some (vs[j]'(by omega)) := List.getElem?_eq_getElem (by omega)
      rw [(h.vals u h.valid (fun _ _ => rfl) vs hg j o' _ hjm hj hv (hall j hjm)).1 t hd]
      refine (envAt_one _ _ _ t j o' _ (take_get hjm hj) hv hd ?_).symm
      intro j' o'' hj' hne hd'
      obtain ⟨h2, h3⟩ := get_take hj'
      exact ok.ok.uniq j' o'' h2 (by simpa using h3) j o' hjm (by simpa using hj) (fun e => hne e.symm) t hd hd'
    · rw [h.base t (fun j o' hj ho' _ hd => hex ⟨j, o', hj, ho', hd⟩)]
      refine (envAt_none _ _ _ t fun j o' hj hd => ?_).symm
      obtain ⟨h2, h3⟩ := get_take hj
      exact hex ⟨j, o', h2, h3, hd⟩
  · refine h.heap.perm (List.Perm.append_left _ (needs_permU (liveU_perm ?_)))
    refine (List.perm_ext_iff_of_nodup h.nodup (exAt_nodupT _ _ _ _ _ ok.e0 (fun c hc => .inr (by have := (ok.tok c hc).1; simp; omega)))).2 fun c => ?_
    have key : ∀ c, c < m → (c ∈ Ex ↔ c ∈ exAt l.toArray ex 0 (l.take m) vs σ E0) := fun c hc =>
      (h.vals u h.valid (fun _ _ => rfl) vs hg c l[c] (vs[c]'(by omega)) hc (List.getElem?_eq_getElem (by omega)) (List.getElem?_eq_getElem (by omega)) (hall c hc)).2
    constructor
    · intro hcm
      rcases h.sub c hcm with h1 | h1
      · exact (key c h1.1).1 hcm
      · exact (exAt_mem _ _ _ _ _ _).2 (.inl h1)
    · intro hcm
      rcases (exAt_mem _ _ _ _ _ _).1 hcm with h0 | ⟨i, o, v, h1, _, h3, _⟩
      · exact h.old c h0
      · exact (key c (by have := (get_take h1).1; omega)).2 hcm
where
  exAt_nodupT : ∀ (l' : List Oper) (vs : List Value) (k : Nat) (σ : Env) (E : List Nat), E.Nodup → (∀ c ∈ E, c < k ∨ k + l'.length ≤ c) → (exAt l.toArray ex k l' vs σ E).Nodup
    | [], _, _, _, _, h, _ => by simpa [exAt] using h
    | _ :: _, [], _, _, _, h, _ => by simpa [exAt] using h
    | o :: l', v :: vs, k, σ, E, h, hk => by
      rw [exAt]
      simp only [List.length_cons] at hk
      refine exAt_nodupT l' vs (k + 1) _ _ ?_ ?_
      · unfold made; split
        · exact List.nodup_cons.2 ⟨fun hc => by rcases hk k hc with h' | h' <;> omega, h⟩
        · exact h
      · intro c hc
        unfold made at hc; split at hc
        · rcases List.mem_cons.1 hc with rfl | hc
          · omega
          · rcases hk c hc with h' | h' <;> omega
        · rcases hk c hc with h' | h' <;> omega
theorem draw_anyU {Q : Exit → Act → World → Prop} {Kk : Got → Env → List Nat → Prop} (ok : OkU l.toArray m nd tk E0) (hgood : ∀ u, Valid ex u → ∃ vs, GoodU C l m ex nd tk E0 L0 σ Kk u vs)
    (hK : ∀ u σ' E a w, Kk u σ' E → Agree a σ' → St C (needs u (liveU tk E) L0) a w → wpListIn (FR C.r) 0 C.P l.toArray Q (l.drop m) a w) :
    ∀ (fuel : Nat) (listed : Array Bool) (u : Got) (Ex : List Nat) (a : Act) (w : World), listed.size = l.length → Shut l.toArray listed → (∀ k, Ls listed k → k < m) → listed.toList.countP (fun b => !b) ≤ fuel →
      MidU C l m ex nd tk E0 L0 σ Kk listed u Ex a w → wpAnyIn (FR C.r) 0 C.P .any l.toArray Q fuel listed a w := by
  have hml : m ≤ l.length := by simpa using ok.ok.le
  have hbig : l.length ≤ 1000 := by simpa using ok.big
  have hnE : ∀ i, i < m → i ∉ E0 := fun i hi hE => by have := (ok.tok i hE).1; omega
  have hcount : ∀ (listed : Array Bool), listed.size = l.length → (∀ k, Ls listed k → k < m) → l.length - m ≤ listed.toList.countP (fun b => !b) := fun listed hs hm => by
    have h1 : (listed.toList.drop m).countP (fun b => !b) ≤ listed.toList.countP (fun b => !b) := (List.drop_sublist m _).countP_le
    have h2 : (listed.toList.drop m).countP (fun b => !b) = (listed.toList.drop m).length := by
      rw [List.countP_eq_length]
      intro b hb
      obtain ⟨j, hj⟩ := List.getElem?_of_mem hb
      rw [List.getElem?_drop] at hj
      cases b with
      | false => rfl
      | true =>
        have : Ls listed (m + j) := by
          unfold Ls
          rw [Array.getD_eq_getD_getElem?, ← Array.getElem?_toList, hj]; rfl
        have := hm _ this
        omega
    rw [List.length_drop, Array.length_toList, hs] at h2
    omega
  intro fuel
  induction fuel with
  | zero =>
    intro listed u Ex a w hs hc hm hcnt h
    have hml' := hcount listed hs hm
    refine draw_endU ok hgood hK listed u Ex a w 0 hs hc hm (fun j hj => ?_) (by omega) h
    have h0 : listed.toList.countP (fun b => !b) = 0 := by omega
    rw [List.countP_eq_zero] at h0
    have := h0 (listed[j]'(by omega)) (by simp)
    unfold Ls
    rw [Array.getD_eq_getD_getElem?, Array.getElem?_eq_getElem (by omega)]
    simpa using this
  | succ fuel ih =>
    intro listed u Ex a w hs hc hm hcnt h
    have hml' := hcount listed hs hm
    by_cases hall : ∀ j, j < m → Ls listed j
    · exact draw_endU ok hgood hK listed u Ex a w (fuel + 1) hs hc hm hall (by omega) h
    refine ⟨fun hr => absurd (fun j hj => all_listed ok.ok (by simpa using hs) hr j (by simp; omega)) hall, fun i hi => ?_⟩
    obtain ⟨h1, o, ho', _⟩ := mem_ready.1 hi
    have ho : l[i]? = some o := by simpa using ho'
    have hil : i < l.length := (List.getElem?_eq_some_iff.1 ho).1
    have hni : ¬ Ls listed i := (not_ls (by omega)).2 h1
    have him : i < m := by
      rcases Nat.lt_or_ge i m with h' | h'
      · exact h'
      · exact absurd (fun j hj => ready_anc hc hi (ok.ok.tail i o h' ho' j (by omega))) hall
    have hc' := hc.set hi (by omega)
    have hm' : ∀ k, Ls (listed.setIfInBounds i true) k → k < m := fun k hk => by
      rcases (Ls.set_iff (by omega)).1 hk with rfl | hk
      · exact him
      · exact hm k hk
    have hcnt' : (listed.setIfInBounds i true).toList.countP (fun b => !b) ≤ fuel := by
      have hb : listed.toList[i]'(by simp; omega) = false := by
        have := h1
        rw [Array.getD_eq_getD_getElem?, Array.getElem?_eq_getElem (by omega)] at this
        simpa using this
      have hpos : 0 < listed.toList.countP (fun b => !b) := List.countP_pos_iff.2 ⟨false, by rw [← hb]; exact List.getElem_mem _, rfl⟩
      have e := List.countP_set (p := fun b : Bool => !b) (l := listed.toList) (i := i) (a := true) (by simp; omega)
      rw [hb] at e
      rw [Array.toList_setIfInBounds, e]
      show _ - 1 + 0 ≤ fuel
      omega
    have goOn := fun u1 Ex1 a1 w1 => ih (listed.setIfInBounds i true) u1 Ex1 a1 w1 (by simpa using hs) hc' hm' hcnt'
    have hread : ∀ u', Valid ex u' → (∀ c ∈ Ex, u' c = u c) → ∀ vs, GoodU C l m ex nd tk E0 L0 σ Kk u' vs → (∀ x ∈ o.op.operands, ev (fun t => a.tmps.getD t undef) x = ev (envAt ((l.take m).take i) (vs.take i) σ) x) ∧ wants l.toArray (fun t => a.tmps.getD t undef) o = wants l.toArray (envAt ((l.take m).take i) (vs.take i) σ) o := fun u' hu' hag vs hg => by
      refine ⟨fun x hx => ?_, wants_congr fun g b hgd tg htg => ?_⟩
      · cases x with
        | tmp t => exact h.read ok hc hi him ho hu' hag hg (fun j o' hj hjo hd => ok.ok.look i o him ho' j o' hj (by simpa using hjo) t hd hx)
        | _ => rfl
      · exact h.read ok hc hi him ho hu' hag hg (fun j o' hj hjo hd => ok.ok.gard i o him ho' g b hgd tg htg j o' hj (by simpa using hjo) hd)
    have hexec : ∀ u', Valid ex u' → (∀ c ∈ Ex, u' c = u c) → ∀ vs, GoodU C l m ex nd tk E0 L0 σ Kk u' vs → execOp (ev (fun t => a.tmps.getD t undef)) o = execOp (ev (envAt ((l.take m).take i) (vs.take i) σ)) o := fun u' hu' hag vs hg =>
      execOp_congr o (ok.ok.sel i o ho') (hread u' hu' hag vs hg).1
    have hat : ∀ vs : List Value, vs.length = (l.take m).length → ∃ v, vs[i]? = some v := fun vs hl => ⟨vs[i]'(by rw [hl, List.length_take]; omega), List.getElem?_eq_getElem _⟩
    -- no one who has run takes what i reads, but i itself
    have hfree : ∀ c ∈ nd i, ∀ k ∈ Ex, c ∉ tk k := fun c hcn k hk hkc => by
      rcases h.sub k hk with ⟨hkm, hkl⟩ | hk0
      · have h2 := ok.tak k hkm c hkc
        have hki : i ≠ k := fun e => hni (e ▸ hkl)
        have h3 := (h2.2.2 i him hki hcn).2
        exact hni (anc_in (D := Ls listed) hc h3 (hc k hkl))
      · rw [(ok.tok k hk0).2] at hkc; cases hkc
    have hneed : ∀ u' vs, Valid ex u' → (∀ c ∈ Ex, u' c = u c) → GoodU C l m ex nd tk E0 L0 σ Kk u' vs → (∀ c ∈ nd i, c ∈ liveU tk (exAt l.toArray ex 0 ((l.take m).take i) (vs.take i) σ E0)) →
        ∃ Rl : List Nat, (liveU tk Ex).Perm (nd i ++ Rl) ∧ Hp C.w0 C.B ((hid C a ++ Rl.flatMap fun c => (u c).2) ++ needs u' (nd i) L0) w := fun u' vs hu' hag hg hn => by
      have hsub : ∀ c ∈ nd i, c ∈ liveU tk Ex := fun c hcn => by
        refine mem_liveU.2 ⟨?_, hfree c hcn⟩
        rcases ok.has i him c hcn with hc1 | hc1
        · have hcn' : c ∈ (nd i).filter fun c => Nat.blt c 1000 := List.mem_filter.2 ⟨hcn, Nat.ble_eq_true_of_le hc1⟩
          have hcl := ready_anc hc hi (ok.ok.need i o him ho' c hcn').2
          have hci := (ok.ok.need i o him ho' c hcn').1
          have hcm : c < m := by omega
          obtain ⟨v, hv⟩ : ∃ v, vs[c]? = some v := ⟨vs[c]'(by rw [hg.len, List.length_take]; omega), List.getElem?_eq_getElem _⟩
          refine ((h.vals u' hu' hag vs hg c l[c] v hcm (List.getElem?_eq_getElem (by omega)) hv hcl).2).2 ?_
          rcases (exAt_mem _ _ _ _ _ _).1 (mem_liveU.1 (hn c hcn)).1 with h0 | ⟨j, o', v', h2, h3, h4, h5, h6⟩
          · have := (ok.tok c h0).1; omega
          · obtain ⟨hji, hjm, hjl⟩ := take_take_get h2
            refine (exAt_mem _ _ _ _ _ _).2 (.inr ⟨j, o', v', take_get hjm hjl, ?_, h4, ?_, h6⟩)
            · rw [List.getElem?_take, if_pos hji] at h3; exact h3
            · have e1 : ((l.take m).take i).take j = (l.take m).take j := by rw [List.take_take, Nat.min_eq_left (by omega)]
              have e2 : (vs.take i).take j = vs.take j := by rw [List.take_take, Nat.min_eq_left (by omega)]
              rw [e1, e2] at h5; exact h5
        · exact h.old c hc1
      have hnd : (liveU tk Ex).Nodup := h.nodup.filter _
      obtain ⟨R, hp⟩ := perm_needs hsub (ok.nodu i him) hnd
      have hfl : ∀ E : List Nat, (∀ c ∈ E, c ∈ Ex) → E.flatMap (fun c => (u c).2) = E.flatMap (fun c => (u' c).2) := fun E hE => by
        induction E with
        | nil => rfl
        | cons c E ihE =>
          rw [List.flatMap_cons, List.flatMap_cons, hag c (hE c (by simp)), ihE (fun d hd => hE d (by simp [hd]))]
      have hpp : (needs u (liveU tk Ex) L0).Perm ((R.flatMap fun c => (u c).2) ++ needs u' (nd i) L0) := by
        unfold needs
        rw [← hfl (nd i) (fun c hcn => (mem_liveU.1 (hsub c hcn)).1), ← List.append_assoc]
        refine List.Perm.append_right _ ((List.Perm.flatMap_right _ hp).trans ?_)
        rw [List.flatMap_append]
        exact List.perm_append_comm
      refine ⟨R, hp, h.heap.perm ?_⟩
      rw [List.append_assoc]
      exact List.Perm.append_left _ hpp
    obtain ⟨vs, hg⟩ := hgood u h.valid
    obtain ⟨v, hv⟩ := hat vs hg.len
    have hstep := hg.step i o v (take_get him ho) hv
    obtain ⟨hd, hstep⟩ := hstep
    unfold wpOpIn
    rw [ho']
    simp only
    rcases hstep with ⟨hw, hn, hcase⟩ | ⟨hw, rfl⟩
    · rw [if_pos (wanted_eq (Agree.refl a) (by rw [(hread u h.valid (fun _ _ => rfl) vs hg).2]; exact hw))]
      obtain ⟨R, hp, hhp⟩ := hneed u vs h.valid (fun _ _ => rfl) hg hn
      rcases hcase with ⟨V, hx, rfl, hsp⟩ | ⟨hx, hsd⟩
      · have hgo := hsp _ w hhp
        rw [← hexec u h.valid (fun _ _ => rfl) vs hg] at hgo
        refine hgo.wpIn (Agree.refl a) ?_
        rintro v' w' ⟨L', hh', T, rfl, hV⟩
        have hniE : i ∉ Ex := fun hiE => by
          rcases h.sub i hiE with h2 | h2
          · exact hni h2.2
          · exact hnE i him h2
        have hval : Valid ex (fun c => if c = i then (v', T) else u c) := fun k V' hk => by
          by_cases hki : k = i
          · subst hki; rw [hx] at hk; cases hk; simpa using hV
          · simp only [if_neg hki]; exact h.valid k V' hk
        have hsame : ∀ c ∈ Ex, (if c = i then (v', T) else u c) = u c := fun c hcE => if_neg (fun e : c = i => hniE (e ▸ hcE))
        refine goOn (fun c => if c = i then (v', T) else u c) (i :: Ex) _ _ ?_
        refine h.put ok (by omega) hni him ho hd hval (List.nodup_cons.2 ⟨hniE, h.nodup⟩) (.inr ⟨rfl, hsame⟩) ?_ ?_
        · intro u' hu' hag vs' hg' v2 hv2
          have hag' : ∀ c ∈ Ex, u' c = u c := fun c hcE => by rw [hag c (by simp [hcE]), hsame c hcE]
          obtain ⟨_, hs2⟩ := hg'.step i o v2 (take_get him ho) hv2
          have hw2 : wants l.toArray (envAt ((l.take m).take i) (vs'.take i) σ) o = true := by
            rw [← (hread u' hu' hag' vs' hg').2, (hread u h.valid (fun _ _ => rfl) vs hg).2]; exact hw
          refine ⟨?_, by simp [exAt_atU (hnE i him) (take_get him ho) hv2, hw2, hx]⟩
          rcases hs2 with ⟨_, _, ⟨V2, hx2, rfl, _⟩ | ⟨hx2, _⟩⟩ | ⟨hw3, _⟩
          · have := hag i (by simp)
            rw [this]; simp
          · rw [hx] at hx2; cases hx2
          · rw [hw2] at hw3; cases hw3
        · refine hh'.perm ?_
          rw [List.append_assoc]
          refine List.Perm.append_left _ ?_
          -- what lives behind it
          have hlive : (liveU tk (i :: Ex)).Perm (i :: ((nd i).filter (fun c => !decide (c ∈ tk i)) ++ R)) := by
            have e0 : liveU tk (i :: Ex) = i :: (liveU tk Ex).filter (fun c => !decide (c ∈ tk i)) := by
              unfold liveU
              have hii : (!((i :: Ex).any fun k => decide (i ∈ tk k))) = true := by
                simp only [Bool.not_eq_true', List.any_eq_false, List.mem_cons, decide_eq_true_eq]
                rintro k (rfl | hk) hkc
                · exact (ok.tak _ him _ hkc).2.1 rfl
                · rcases h.sub k hk with ⟨hkm, hkl⟩ | hk0
                  · have h2 := ok.tak k hkm i hkc
                    have h4 : i ∈ (nd k).filter fun c => Nat.blt c 1000 := List.mem_filter.2 ⟨h2.1, Nat.ble_eq_true_of_le (by omega)⟩
                    obtain ⟨ok', hok'⟩ : ∃ o', l[k]? = some o' := ⟨l[k]'(by omega), List.getElem?_eq_getElem (by omega)⟩
                    have h3 := (ok.ok.need k ok' hkm (by simpa using hok') i h4).2
                    exact hni (anc_in (D := Ls listed) hc h3 (hc k hkl))
                  · rw [(ok.tok k hk0).2] at hkc; cases hkc
              rw [List.filter_cons, if_pos hii]
              congr 1
              rw [List.filter_filter]
              apply List.filter_congr
              intro c _
              simp only [List.any_cons, Bool.not_or]
            rw [e0]
            refine List.Perm.cons _ ?_
            refine (hp.filter _).trans ?_
            rw [List.filter_append]
            refine List.Perm.append_left _ ?_
            have : R.filter (fun c => !decide (c ∈ tk i)) = R := by
              rw [List.filter_eq_self]
              intro c hcR
              simp only [Bool.not_eq_true', decide_eq_false_iff_not]
              intro hkc
              have h2 := (ok.tak i him c hkc).1
              have hnd : (nd i ++ R).Nodup := hp.nodup_iff.1 (h.nodup.filter _)
              exact (List.nodup_append.1 hnd).2.2 c h2 c hcR rfl
            rw [this]
          have hRE : ∀ c ∈ (nd i).filter (fun c => !decide (c ∈ tk i)) ++ R, c ∈ Ex := fun c hcc => by
            have : c ∈ nd i ++ R := by
              rcases List.mem_append.1 hcc with h2 | h2
              · exact List.mem_append_left _ (List.mem_filter.1 h2).1
              · exact List.mem_append_right _ h2
            exact (mem_liveU.1 (hp.mem_iff.2 this)).1
          have e1 : ∀ E : List Nat, (∀ c ∈ E, c ∈ Ex) → E.flatMap (fun c => (if c = i then (v', T) else u c).2) = E.flatMap (fun c => (u c).2) := fun E hE => by
            induction E with
            | nil => rfl
            | cons c E ihE => rw [List.flatMap_cons, List.flatMap_cons, hsame c (hE c (by simp)), ihE (fun d hd => hE d (by simp [hd]))]
          have e2 : needs (fun c => if c = i then (v', T) else u c) (i :: ((nd i).filter (fun c => !decide (c ∈ tk i)) ++ R)) L0 = T ++ (((nd i).filter (fun c => !decide (c ∈ tk i))).flatMap (fun c => (u c).2) ++ (R.flatMap (fun c => (u c).2) ++ L0)) := by
            unfold needs
            rw [List.flatMap_cons, e1 _ hRE, List.flatMap_append]
            simp
          refine List.Perm.trans ?_ (needs_permU hlive.symm)
          rw [e2]
          unfold needs
          refine List.Perm.trans List.perm_append_comm ?_
          rw [List.append_assoc, List.append_assoc]
          refine List.Perm.append_left _ (List.Perm.append_left _ List.perm_append_comm)
      · have hrun := hsd _ w hhp
        rw [← hexec u h.valid (fun _ _ => rfl) vs hg] at hrun
        have hgo : Goes C.P ((execOp (ev (fun t => a.tmps.getD t undef)) o).run C.P w) (fun v' w' => v' = v ∧ w' = w) := .inl ⟨v, w, hrun, rfl, rfl⟩
        refine hgo.wpIn (Agree.refl a) ?_
        rintro v' w' ⟨rfl, rfl⟩
        have hniE : i ∉ Ex := fun hiE => by
          rcases h.sub i hiE with h2 | h2
          · exact hni h2.2
          · exact hnE i him h2
        refine goOn u Ex _ _ (h.put ok (by omega) hni him ho hd h.valid h.nodup (.inl ⟨rfl, rfl⟩) ?_ h.heap)
        intro u' hu' hag vs' hg' v2 hv2
        obtain ⟨_, hs2⟩ := hg'.step i o v2 (take_get him ho) hv2
        have hw2 : wants l.toArray (envAt ((l.take m).take i) (vs'.take i) σ) o = true := by
          rw [← (hread u' hu' hag vs' hg').2, (hread u h.valid (fun _ _ => rfl) vs hg).2]; exact hw
        refine ⟨?_, by simp [exAt_atU (hnE i him) (take_get him ho) hv2, hx, hniE]⟩
        rcases hs2 with ⟨_, hn2, ⟨V2, hx2, _, _⟩ | ⟨_, hsd2⟩⟩ | ⟨hw3, _⟩
        · rw [hx] at hx2; cases hx2
        · obtain ⟨R2, _, hhp2⟩ := hneed u' vs' hu' hag hg' hn2
          have hrun2 := hsd2 _ w' hhp2
          rw [← hexec u' hu' hag vs' hg', hrun] at hrun2
          injection hrun2 with h5
          injection h5 with h5
          exact h5.symm
        · rw [hw2] at hw3; cases hw3
    · rw [if_neg (by rw [wanted_ne (Agree.refl a) (by rw [(hread u h.valid (fun _ _ => rfl) vs hg).2]; exact hw)]; simp)]
      have hniE : i ∉ Ex := fun hiE => by
        rcases h.sub i hiE with h2 | h2
        · exact hni h2.2
        · exact hnE i him h2
      refine ⟨fun _ _ => trivial, goOn u Ex _ _ (h.put ok (by omega) hni him ho hd h.valid h.nodup (.inl ⟨rfl, rfl⟩) ?_ h.heap)⟩
      intro u' hu' hag vs' hg' v2 hv2
      obtain ⟨_, hs2⟩ := hg'.step i o v2 (take_get him ho) hv2
      have hw2 : wants l.toArray (envAt ((l.take m).take i) (vs'.take i) σ) o = false := by
        rw [← (hread u' hu' hag vs' hg').2, (hread u h.valid (fun _ _ => rfl) vs hg).2]; exact hw
      refine ⟨?_, by simp [exAt_atU (hnE i him) (take_get him ho) hv2, hw2, hniE]⟩
      rcases hs2 with ⟨hw3, _⟩ | ⟨_, h5⟩
      · rw [hw2] at hw3; cases hw3
      · exact h5
end
/-- **A REGION WHOSE ORDER IS DRAWN**, what was there in tokens E0: token c holds T0 c. -/
theorem Cd.drawU {C : Ctx} {Q : Exit → Env → List Res → Prop} {id : Nat} {l : List Oper} {σ : Env} {L L0 : List Res} (hm : C.P.follows .mixedOrders = true) (m : Nat) (ex : Nat → Option (Value → List Res → Prop)) (nd : Nat → List Nat) (tk : Nat → List Nat) (E0 : List Nat) (T0 : Nat → List Res) (hok : drawOkU l.toArray m nd tk E0 = true)
    (hL : L.Perm (E0.flatMap T0 ++ L0)) (hex : ∀ c ∈ E0, ex c = some (fun v R => v = undef ∧ R = T0 c)) (hin : ∀ k V, ex k = some V → ∃ v R, V v R)
    (h : ∀ u : Got, Valid ex u → (∀ c ∈ E0, u c = (undef, T0 c)) → WkU C l.toArray ex nd tk u L0 0 (l.take m) σ E0 (fun σ' E => Ol C l.toArray (l.drop m) (fun σ L => Q .normal σ L) σ' (needs u (liveU tk E) L0))) :
    Cd C (.region id l.toArray true) Q σ L := by
  intro a w ha hs
  refine wpIn_region_any hm ?_
  have ok : OkU l.toArray m nd tk E0 := OkU.mk' hok
  have hu0e : ∀ u, Valid ex u → ∀ c ∈ E0, u c = (undef, T0 c) := fun u hu c hc => by
    obtain ⟨h1, h2⟩ := hu c _ (hex c hc)
    rw [← h1, ← h2]
  have hgood : ∀ u, Valid ex u → ∃ vs, GoodU C l m ex nd tk E0 L0 σ (fun u σ' E => Ol C l.toArray (l.drop m) (fun σ L => Q .normal σ L) σ' (needs u (liveU tk E) L0)) u vs := fun u hu => by
    obtain ⟨vs, h1, h2, h3⟩ := (h u hu (hu0e u hu)).vals
    exact ⟨vs, h1, fun i o v hi hv => by simpa using h2 i o v hi hv, h3⟩
  have hu0 : ∃ u : Got, Valid ex u := by
    refine ⟨fun k => match hx : ex k with
      | some V => (Classical.choose (hin k V hx), Classical.choose (Classical.choose_spec (hin k V hx)))
      | none => (undef, []), fun k V hk => ?_⟩
    have := Classical.choose_spec (Classical.choose_spec (hin k V hk))
    simp only
    split
    · rename_i V' hx
      rw [hk] at hx
      cases hx
      exact this
    · rename_i hx; rw [hk] at hx; cases hx
  obtain ⟨u, hu⟩ := hu0
  have hlive : liveU tk E0 = E0 := by
    unfold liveU
    rw [List.filter_eq_self]
    intro c _
    simp only [Bool.not_eq_true', List.any_eq_false, decide_eq_true_eq]
    intro k hk hkc
    rw [(ok.tok k hk).2] at hkc; cases hkc
  have hneeds : needs u E0 L0 = E0.flatMap T0 ++ L0 := by
    unfold needs
    congr 1
    have : ∀ E : List Nat, (∀ c ∈ E, c ∈ E0) → E.flatMap (fun c => (u c).2) = E.flatMap T0 := fun E hE => by
      induction E with
      | nil => rfl
      | cons c E ihE => rw [List.flatMap_cons, List.flatMap_cons, hu0e u hu c (hE c (by simp)), ihE (fun d hd => hE d (by simp [hd]))]
    exact this E0 (fun _ h => h)
  refine draw_anyU (nd := nd) (tk := tk) (E0 := E0) (ex := ex) (σ := σ) (L0 := L0) ok hgood (fun u σ' E a w hk ha hs => hk a w _ ha hs fun a' w' σ'' L' h1 h2 h3 => ⟨σ'', L', h1, h2, h3⟩) l.toArray.size (Array.replicate l.toArray.size false) u E0 a _ (by simp) ?_ ?_ ?_ ⟨hs.size, hu, ok.e0, fun c hc => .inr hc, fun c hc => hc, fun t _ => ha t, ?_, ?_⟩
  · intro k hk
    exact (ls_rep hk).elim
  · intro k hk
    exact (ls_rep hk).elim
  · simp only [Array.toList_replicate]
    exact Nat.le_trans List.countP_le_length (by simp)
  · intro u' _ _ vs _ j o v _ _ _ hl
    exact (ls_rep hl).elim
  · rw [hlive, hneeds]
    exact (hs.heap.step (Stp.drew w)).perm (List.Perm.append_left _ hL)
/-! ### The walk's steps -/
section
variable {C : Ctx} {all : Array Oper} {ex : Nat → Option (Value → List Res → Prop)} {nd : Nat → List Nat} {tk : Nat → List Nat} {u : Got} {L0 : List Res} {k : Nat} {rest : List Oper} {σ : Env} {E : List Nat} {K : Env → List Nat → Prop} {op : Op} {d : Option Nat} {ty : TypeId} {pos : String} {af : Array Edge} {gd : Option (Nat × Bool)} {v : Value}
theorem WkU.nil (h : K σ E) : WkU C all ex nd tk u L0 k [] σ E K := h
theorem WkU.goN {l : List Nat} (hw : wants all σ ⟨d, op, ty, pos, af, gd⟩ = true) (h : Sd C.P C.w0 C.B ⟨d, op, ty, pos, af, gd⟩ σ (needs u l L0) v) (hk : WkU C all ex nd tk u L0 (k + 1) rest (updO σ d v) E K)
    (hd : okDst C.N d = true) (hx : ex k = none) (hn : nd k = l) (hE : ∀ c ∈ l, c ∈ liveU tk E) : WkU C all ex nd tk u L0 k (⟨d, op, ty, pos, af, gd⟩ :: rest) σ E K := by
  unfold WkU
  simp only [hw, cond_true, hx, hn]
  exact ⟨hE, hd, v, h, hk⟩
theorem WkU.goX {l l2 : List Nat} {V : Value → List Res → Prop} (hw : wants all σ ⟨d, op, ty, pos, af, gd⟩ = true) (hu : Valid ex u) (hx : ex k = some V) (hn : nd k = l) (h2 : (l.filter fun c => !decide (c ∈ tk k)) = l2) (hE : ∀ c ∈ l, c ∈ liveU tk E)
    (h : Sp C.P C.w0 C.B ⟨d, op, ty, pos, af, gd⟩ σ (needs u l L0) (Adds V (needs u l2 L0))) (hk : ∀ v T, u k = (v, T) → V v T → WkU C all ex nd tk u L0 (k + 1) rest (updO σ d v) (k :: E) K)
    (hd : okDst C.N d = true) : WkU C all ex nd tk u L0 k (⟨d, op, ty, pos, af, gd⟩ :: rest) σ E K := by
  unfold WkU
  simp only [hw, cond_true, hx, hn, h2]
  exact ⟨hE, hd, h, hk _ _ rfl (hu k V hx)⟩
theorem WkU.p (h : Sd C.P C.w0 C.B ⟨d, op, ty, pos, af, none⟩ σ L0 v) (hk : WkU C all ex nd tk u L0 (k + 1) rest (updO σ d v) E K) (hd : okDst C.N d = true := by rfl) (hx : ex k = none := by rfl) (hn : nd k = [] := by rfl) :
    WkU C all ex nd tk u L0 k (⟨d, op, ty, pos, af, none⟩ :: rest) σ E K := WkU.goN (l := []) rfl h hk hd hx hn (fun c h => by cases h)
theorem WkU.pn {l : List Nat} (hn : nd k = l) (hE : (l.all fun c => (liveU tk E).contains c) = true) (h : Sd C.P C.w0 C.B ⟨d, op, ty, pos, af, none⟩ σ (needs u l L0) v) (hk : WkU C all ex nd tk u L0 (k + 1) rest (updO σ d v) E K) (hd : okDst C.N d = true := by rfl) (hx : ex k = none := by rfl) :
    WkU C all ex nd tk u L0 k (⟨d, op, ty, pos, af, none⟩ :: rest) σ E K := WkU.goN rfl h hk hd hx hn (fun c hc => by simpa using List.all_eq_true.1 hE c hc)
theorem WkU.xn {l l2 : List Nat} {V : Value → List Res → Prop} (hu : Valid ex u) (hn : nd k = l) (h2 : (l.filter fun c => !decide (c ∈ tk k)) = l2) (hE : (l.all fun c => (liveU tk E).contains c) = true) (h : Sp C.P C.w0 C.B ⟨d, op, ty, pos, af, none⟩ σ (needs u l L0) (Adds V (needs u l2 L0))) (hk : ∀ v T, u k = (v, T) → V v T → WkU C all ex nd tk u L0 (k + 1) rest (updO σ d v) (k :: E) K)
    (hd : okDst C.N d = true := by rfl) (hx : ex k = some V := by rfl) : WkU C all ex nd tk u L0 k (⟨d, op, ty, pos, af, none⟩ :: rest) σ E K :=
  WkU.goX rfl hu hx hn h2 (fun c hc => by simpa using List.all_eq_true.1 hE c hc) h hk hd
end
end Go.Proofs.YtcojedoejpcolaaGreat

/- Counts of edges, their order, unions of what is reached: plain laws. -/
namespace Go.Proofs.YtcojedoejpcolaaGreat
set_option linter.unusedVariables false
set_option maxRecDepth 10000
open Go Go.RowKit

theorem filter_len_split {α : Type} {l : List α} {p q r : α → Bool} (h : ∀ x ∈ l, r x = (p x || q x)) (hd : ∀ x ∈ l, (p x && q x) = false) : (l.filter r).length = (l.filter p).length + (l.filter q).length := by
  induction l with
  | nil => rfl
  | cons a l ih =>
    have ih := ih (fun x hx => h x (by simp [hx])) (fun x hx => hd x (by simp [hx]))
    have h1 := h a (by simp)
    have h2 := hd a (by simp)
    simp only [List.filter_cons, h1]
    cases hp : p a <;> cases hq : q a <;> simp [hp, hq] at h2 ⊢ <;> omega
theorem someE_len_split {ts : List Tm} {p q r : Ed → Bool} (h : ∀ x ∈ edges ts, r x = (p x || q x)) (hd : ∀ x ∈ edges ts, (p x && q x) = false) : (someE ts r).length = (someE ts p).length + (someE ts q).length := by
  unfold someE
  cases closed ts with
  | false => rfl
  | true => exact filter_len_split h hd
theorem src_range {ts : List Tm} {e : Ed} (he : e ∈ edges ts) : 0 ≤ e.src ∧ e.src < ts.length ∧ 0 ≤ e.arm ∧ e.arm < 2 := by
  obtain ⟨k, j, t, hk, hj, h1, h2⟩ := mem_edges.1 he
  have := (List.getElem?_eq_some_iff.1 hk).1
  have h3 := (List.getElem?_eq_some_iff.1 hj).1
  have := toL_len t
  omega
def outTo (ts : List Tm) (k : Nat) : Nat := (someE ts fun e => decide (e.src < (k : Int))).length
def inTo (ts : List Tm) (k : Nat) : Nat := (someE ts fun e => decide (e.to < (k : Int))).length
theorem outTo_zero (ts : List Tm) : outTo ts 0 = 0 := by
  unfold outTo someE
  cases hc : closed ts with
  | false => rfl
  | true =>
    rw [cond_true, List.length_eq_zero_iff, List.filter_eq_nil_iff]
    intro e he
    have := src_range he
    simp; omega
theorem inTo_zero (ts : List Tm) : inTo ts 0 = 0 := by
  unfold inTo someE
  cases hc : closed ts with
  | false => rfl
  | true =>
    rw [cond_true, List.length_eq_zero_iff, List.filter_eq_nil_iff]
    intro e he
    have := (closed_len hc).2.2 e he
    simp; omega
theorem outTo_succ (ts : List Tm) (k : Nat) : outTo ts (k + 1) = outTo ts k + (someE ts fun e => decide (e.src = (k : Int))).length :=
  someE_len_split (fun e he => by
    by_cases h1 : e.src < (k : Int) <;> by_cases h2 : e.src = (k : Int) <;> simp [h1, h2] <;> omega) (fun e he => by
    by_cases h1 : e.src < (k : Int) <;> by_cases h2 : e.src = (k : Int) <;> simp [h1, h2] <;> omega)
theorem inTo_succ (ts : List Tm) (k : Nat) : inTo ts (k + 1) = inTo ts k + (someE ts fun e => decide (e.to = (k : Int))).length :=
  someE_len_split (fun e he => by
    by_cases h1 : e.to < (k : Int) <;> by_cases h2 : e.to = (k : Int) <;> simp [h1, h2] <;> omega) (fun e he => by
    by_cases h1 : e.to < (k : Int) <;> by_cases h2 : e.to = (k : Int) <;> simp [h1, h2] <;> omega)
theorem outTo_all (ts : List Tm) : outTo ts ts.length = (someE ts fun _ => true).length := by
  unfold outTo someE
  cases hc : closed ts with
  | false => rfl
  | true =>
    rw [cond_true, cond_true]
    congr 1
    apply List.filter_congr
    intro e he
    have := src_range he
    simp; omega
theorem inTo_all (ts : List Tm) : inTo ts ts.length = (someE ts fun _ => true).length := by
  unfold inTo someE
  cases hc : closed ts with
  | false => rfl
  | true =>
    rw [cond_true, cond_true]
    congr 1
    apply List.filter_congr
    intro e he
    have := (closed_len hc).2.2 e he
    simp; omega
theorem someE_len_le (ts : List Tm) (p : Ed → Bool) : (someE ts p).length ≤ 400 := by
  unfold someE
  cases hc : closed ts with
  | false => simp
  | true =>
    rw [cond_true]
    have h1 := (closed_le hc).2
    have h2 := edgesTo_len_le ts ts.length
    have h3 := List.length_filter_le p (edges ts)
    unfold edges at h3 ⊢
    omega
theorem outTo_le (ts : List Tm) (k : Nat) : outTo ts k ≤ 400 := someE_len_le _ _
theorem inTo_le (ts : List Tm) (k : Nat) : inTo ts k ≤ 400 := someE_len_le _ _
theorem crit_iff {ts : List Tm} (hc : closed ts = true) (e : Ed) : critE ts e = (decide (1 < (someE ts fun x => decide (x.src = e.src)).length) && decide (1 < (someE ts fun x => decide (x.to = e.to)).length)) := by
  have key : ∀ (g : Ed → Int) (n : Int), cnt ((edges ts).map g) n = ((edges ts).filter fun x => decide (g x = n)).length := fun g n => by
    unfold cnt
    rw [List.count_eq_countP, List.countP_map, List.countP_eq_length_filter]
    congr 1
  unfold critE someE
  rw [key, key, hc, cond_true, cond_true, Bool.and_comm]
/-- The critical edges among the first ones. -/
def critTo (ts : List Tm) (k : Nat) : List Ed := ((someE ts fun _ => true).take k).filter (critE ts)
theorem critTo_le (ts : List Tm) (k : Nat) : (critTo ts k).length ≤ 400 := Nat.le_trans (List.length_filter_le _ _) (by
  rw [List.length_take]
  exact Nat.le_trans (Nat.min_le_right _ _) (someE_len_le _ _))
theorem critTo_all (ts : List Tm) : critTo ts (someE ts fun _ => true).length = someE ts (critE ts) := by
  unfold critTo
  rw [List.take_length]
  unfold someE
  cases hc : closed ts with
  | false => rfl
  | true => simp
theorem critTo_succ {ts : List Tm} {k : Nat} {e : Ed} (h : (someE ts fun _ => true)[k]? = some e) : critTo ts (k + 1) = critTo ts k ++ (if critE ts e = true then [e] else []) := by
  unfold critTo
  rw [take_snoc_ h, List.filter_append]
  congr 1
  by_cases hp : critE ts e = true <;> simp [hp]
theorem critTo_get {ts : List Tm} {k : Nat} {e : Ed} (h : (someE ts fun _ => true)[k]? = some e) (hc : critE ts e = true) : (someE ts (critE ts))[(critTo ts k).length]? = some e := by
  have h1 := critTo_succ h
  rw [if_pos hc] at h1
  have hk := (List.getElem?_eq_some_iff.1 h).1
  have hpre : critTo ts (someE ts fun _ => true).length = critTo ts (k + 1) ++ ((someE ts fun _ => true).drop (k + 1)).filter (critE ts) := by
    unfold critTo
    rw [List.take_length, ← List.filter_append, List.take_append_drop]
  rw [← critTo_all, hpre, h1, List.append_assoc, List.getElem?_append_right (Nat.le_refl _)]
  simp
theorem edgesTo_src {ts : List Tm} {k : Nat} {e : Ed} (h : e ∈ edgesTo ts k) : e.src < (k : Int) := by
  unfold edgesTo edgesB at h
  simp only [List.mem_flatMap, Prod.exists, List.mem_map, List.mem_zipIdx_iff_getElem?] at h
  obtain ⟨t, i, hi, n, j, hj, rfl⟩ := h
  have := (List.getElem?_eq_some_iff.1 hi).1
  simp at this ⊢
  omega
def EdLt (a b : Ed) : Prop := a.src < b.src ∨ (a.src = b.src ∧ a.arm < b.arm)
theorem edges_sorted (ts : List Tm) : (edges ts).Pairwise EdLt := by
  have key : ∀ k, k ≤ ts.length → (edgesTo ts k).Pairwise EdLt := by
    intro k
    induction k with
    | zero => intro _; simp [edgesTo]
    | succ k ih =>
      intro hk
      rw [edgesTo_succ (List.getElem?_eq_getElem (show k < ts.length by omega)), List.pairwise_append]
      refine ⟨ih (by omega), ?_, fun a ha b hb => .inl ?_⟩
      · rw [List.pairwise_iff_getElem]
        intro i j hi hj hij
        right
        simp [edgesB]
        omega
      · have h1 := edgesTo_src ha
        unfold edgesB at hb
        simp only [List.mem_map] at hb
        obtain ⟨x, _, rfl⟩ := hb
        exact h1
  exact key ts.length (Nat.le_refl _)
theorem edges_next {ts : List Tm} {k : Nat} {a b : Ed} (ha : (someE ts fun _ => true)[k]? = some a) (hb : (someE ts fun _ => true)[k + 1]? = some b) : EdLt a b := by
  have hs : (someE ts fun _ => true).Pairwise EdLt := by
    unfold someE
    cases closed ts with
    | false => exact .nil
    | true => rw [cond_true]; exact (edges_sorted ts).filter _
  obtain ⟨h1, rfl⟩ := List.getElem?_eq_some_iff.1 ha
  obtain ⟨h2, rfl⟩ := List.getElem?_eq_some_iff.1 hb
  exact List.pairwise_iff_getElem.1 hs k (k + 1) h1 h2 (by omega)
theorem edV_get {l : List Ed} {k : Nat} {e : Ed} (h : l[k]? = some e) {j : Nat} {u : Value} (hj : e.cells[j]? = some u) : (edV l)[k * 3 + j]? = some u := by
  have hl := (List.getElem?_eq_some_iff.1 hj).1
  unfold edV
  rw [flat_get Ed.len _ _ _ _ h hl]
  exact hj
theorem reached_none {ts : List Tm} {fr nt : List Int} (hc : closed ts = false) : reachedF ts fr nt = [] := by unfold reachedF; rw [hc]; rfl
theorem reached_union {ts : List Tm} {fr more : List Int} (i : Nat) : i ∈ reachedF ts (fr ++ more) [] ↔ i ∈ reachedF ts fr [] ∨ i ∈ reachedF ts more [] := by
  cases hc : closed ts with
  | false => simp [reached_none hc]
  | true =>
    rw [mem_reachedF hc, mem_reachedF hc, mem_reachedF hc]
    constructor
    · rintro ⟨a, h1, h2, h3⟩
      rcases List.mem_append.1 h2 with h2 | h2
      · exact .inl ⟨a, h1, h2, h3⟩
      · exact .inr ⟨a, h1, h2, h3⟩
    · rintro (⟨a, h1, h2, h3⟩ | ⟨a, h1, h2, h3⟩)
      · exact ⟨a, h1, by simp [h2], h3⟩
      · exact ⟨a, h1, by simp [h2], h3⟩
end Go.Proofs.YtcojedoejpcolaaGreat

/- Plain laws behind the document's answer of layer 03: rounds over all edges. -/
namespace Go.Proofs.YtcojedoejpcolaaGreat
set_option linter.unusedVariables false
set_option linter.unusedSimpArgs false
open Go Go.RowKit

def orB (S : Nat → Bool) (t : Nat) (c : Bool) : Nat → Bool := fun i => if i = t then S i || c else S i
def upE (P S : Nat → Bool) (e : Ed) : Nat → Bool := orB S e.to.toNat (S e.src.toNat && P e.src.toNat)
/-- The first m edges are gone along. -/
def passM (P : Nat → Bool) (ts : List Tm) (m : Nat) (S : Nat → Bool) : Nat → Bool := ((edges ts).take m).foldl (upE P) S
def passA (P : Nat → Bool) (ts : List Tm) (S : Nat → Bool) : Nat → Bool := passM P ts (edges ts).length S
theorem orB_mono {S : Nat → Bool} {t : Nat} {c : Bool} {i : Nat} (h : S i = true) : orB S t c i = true := by
  unfold orB
  split
  · rw [h]; rfl
  · exact h
section
variable {P : Nat → Bool} {ts : List Tm}
theorem passM_zero (S : Nat → Bool) : passM P ts 0 S = S := rfl
theorem passM_succ {m : Nat} {e : Ed} (h : (edges ts)[m]? = some e) (S : Nat → Bool) : passM P ts (m + 1) S = upE P (passM P ts m S) e := by
  unfold passM
  rw [take_snoc_ h, List.foldl_append]
  rfl
theorem passM_over {m : Nat} (h : (edges ts).length ≤ m) (S : Nat → Bool) : passM P ts m S = passA P ts S := by
  unfold passA passM
  rw [List.take_of_length_le h, List.take_length]
theorem passM_mono {S : Nat → Bool} {i : Nat} : ∀ (m d : Nat), passM P ts m S i = true → passM P ts (m + d) S i = true
  | m, 0, h => h
  | m, d + 1, h => by
    have ih := passM_mono m d h
    rw [← Nat.add_assoc]
    by_cases hl : m + d < (edges ts).length
    · rw [passM_succ (List.getElem?_eq_getElem hl)]
      exact orB_mono ih
    · rw [passM_over (by omega)] at ih ⊢
      exact ih
theorem passM_sub {S : Nat → Bool} {i : Nat} (h : S i = true) (m : Nat) : passM P ts m S i = true := by
  have := passM_mono (P := P) (ts := ts) (S := S) (i := i) 0 m h
  rwa [Nat.zero_add] at this
theorem passM_all {S : Nat → Bool} {i m : Nat} (hm : m ≤ (edges ts).length) (h : passM P ts m S i = true) : passA P ts S i = true := by
  have := passM_mono (P := P) (ts := ts) (S := S) (i := i) m ((edges ts).length - m) h
  rwa [Nat.add_sub_cancel' hm] at this
theorem passM_sound {R : Nat → Prop} {S : Nat → Bool} (hS : ∀ i, S i = true → R i) (hR : ∀ e ∈ edges ts, R e.src.toNat → P e.src.toNat = true → R e.to.toNat) : ∀ m i, passM P ts m S i = true → R i
  | 0, i, h => hS i h
  | m + 1, i, h => by
    by_cases hl : m < (edges ts).length
    · rw [passM_succ (List.getElem?_eq_getElem hl)] at h
      unfold upE orB at h
      split at h
      · rename_i e
        rw [Bool.or_eq_true, Bool.and_eq_true] at h
        rcases h with h | ⟨h1, h2⟩
        · exact passM_sound hS hR m i h
        · rw [e]
          exact hR _ (List.getElem_mem hl) (passM_sound hS hR m _ h1) h2
      · exact passM_sound hS hR m i h
    · rw [passM_over (by omega), ← passM_over (m := m) (by omega)] at h
      exact passM_sound hS hR m i h
def Ends (ts : List Tm) (n : Nat) : Prop := ∀ e ∈ edges ts, e.src.toNat < n ∧ e.to.toNat < n
def FixB (P : Nat → Bool) (ts : List Tm) (n : Nat) (S : Nat → Bool) : Prop := ∀ i, i < n → passA P ts S i = S i
theorem FixB.closed {n : Nat} {S : Nat → Bool} (hE : Ends ts n) (h : FixB P ts n S) {e : Ed} (he : e ∈ edges ts) (h1 : S e.src.toNat = true) (h2 : P e.src.toNat = true) : S e.to.toNat = true := by
  obtain ⟨j, hj⟩ := List.mem_iff_getElem?.1 he
  have hjl := (List.getElem?_eq_some_iff.1 hj).1
  rw [← h _ (hE e he).2]
  refine passM_all (m := j + 1) (by omega) ?_
  rw [passM_succ hj]
  unfold upE orB
  rw [if_pos rfl, passM_sub h1, h2]
  simp
theorem passM_congr {n : Nat} {S T : Nat → Bool} (hE : Ends ts n) (h : ∀ i, i < n → S i = T i) : ∀ m i, i < n → passM P ts m S i = passM P ts m T i
  | 0, i, hi => h i hi
  | m + 1, i, hi => by
    by_cases hl : m < (edges ts).length
    · rw [passM_succ (List.getElem?_eq_getElem hl), passM_succ (List.getElem?_eq_getElem hl)]
      have hm := hE _ (List.getElem_mem hl)
      unfold upE orB
      rw [passM_congr hE h m i hi, passM_congr hE h m _ hm.1]
    · rw [passM_over (by omega), passM_over (by omega), ← passM_over (m := m) (by omega), ← passM_over (m := m) (by omega)]
      exact passM_congr hE h m i hi
theorem FixB.next {n : Nat} {S : Nat → Bool} (hE : Ends ts n) (h : FixB P ts n S) : FixB P ts n (passA P ts S) := fun i hi => by
  have h1 := passM_congr (P := P) hE h (edges ts).length i hi
  exact h1
theorem cntB_up {n : Nat} {S T : Nat → Bool} (h : ∀ i, i < n → S i = true → T i = true) {i : Nat} (hi : i < n) (hS : S i = false) (hT : T i = true) : cntB n S + 1 ≤ cntB n T := by
  unfold cntB
  have hmem : i ∉ (List.range n).filter S := fun hm => by
    rw [(List.mem_filter.1 hm).2] at hS; cases hS
  have := nodup_le (i :: (List.range n).filter S) ((List.range n).filter T) (List.nodup_cons.2 ⟨hmem, List.Pairwise.filter _ List.nodup_range⟩) (fun x hx => by
    rcases List.mem_cons.1 hx with rfl | hx
    · exact List.mem_filter.2 ⟨by simpa using hi, hT⟩
    · obtain ⟨h1, h2⟩ := List.mem_filter.1 hx
      exact List.mem_filter.2 ⟨h1, h x (by simpa using h1) h2⟩)
  simpa using this
theorem rounds {n : Nat} (hE : Ends ts n) (S : Nat → Bool) : ∀ k, FixB P ts n (iterF (passA P ts) k S) ∨ k + cntB n S ≤ cntB n (iterF (passA P ts) k S)
  | 0 => .inr (by rw [Nat.zero_add]; exact Nat.le_refl _)
  | k + 1 => by
    by_cases hf : FixB P ts n (iterF (passA P ts) k S)
    · exact .inl (hf.next hE)
    · rcases rounds hE S k with h | h
      · exact absurd h hf
      · right
        have : ∃ i, i < n ∧ passA P ts (iterF (passA P ts) k S) i ≠ iterF (passA P ts) k S i := by
          apply Classical.byContradiction
          intro hno
          exact hf fun i hi => Classical.byContradiction fun hne => hno ⟨i, hi, hne⟩
        obtain ⟨i, hi, hne⟩ := this
        have hS : iterF (passA P ts) k S i = false := by
          cases hc : iterF (passA P ts) k S i with
          | false => rfl
          | true => exact absurd (by rw [hc]; exact passM_sub hc _) hne
        have hT : passA P ts (iterF (passA P ts) k S) i = true := by
          cases hc : passA P ts (iterF (passA P ts) k S) i with
          | true => rfl
          | false => exact absurd (hc.trans hS.symm) hne
        have := cntB_up (T := passA P ts (iterF (passA P ts) k S)) (fun j _ hj => passM_sub hj _) hi hS hT
        show k + 1 + cntB n S ≤ cntB n (passA P ts (iterF (passA P ts) k S))
        omega
/-- The last round but one has nothing more to do. -/
theorem rounds_last {n : Nat} (hE : Ends ts n) (hn : 0 < n) {S : Nat → Bool} (h0 : 1 ≤ cntB n S ∨ ∀ i, i < n → S i = false) : FixB P ts n (iterF (passA P ts) (n - 1) S) := by
  rcases h0 with h0 | h0
  · rcases rounds (P := P) hE S (n - 1) with h | h
    · exact h
    · have hall : ∀ i, i < n → iterF (passA P ts) (n - 1) S i = true := fun i hi => by
        cases hc : iterF (passA P ts) (n - 1) S i with
        | true => rfl
        | false =>
          have := cntB_up (n := n) (S := iterF (passA P ts) (n - 1) S) (T := fun _ => true) (fun _ _ _ => rfl) hi hc rfl
          have := cntB_le n (fun _ => true)
          omega
      intro i hi
      rw [hall i hi]
      exact passM_sub (hall i hi) _
  · have key : ∀ k, ∀ i, i < n → iterF (passA P ts) k S i = false := by
      intro k
      induction k with
      | zero => exact h0
      | succ k ih =>
        intro i hi
        cases hc : iterF (passA P ts) (k + 1) S i with
        | false => rfl
        | true =>
          have := passM_sound (P := P) (ts := ts) (R := fun i => n ≤ i) (S := iterF (passA P ts) k S) (fun i h => by
            by_cases hi : i < n
            · rw [ih i hi] at h; cases h
            · omega) (fun e he h _ => by have := (hE e he).1; omega) (edges ts).length i hc
          omega
    intro i hi
    have := key (n - 1 + 1) i hi
    rw [key (n - 1) i hi]
    exact this
theorem iter_sub {S : Nat → Bool} {i : Nat} (h : S i = true) : ∀ k, iterF (passA P ts) k S i = true
  | 0 => h
  | k + 1 => passM_sub (iter_sub h k) _
theorem iter_sound {R : Nat → Prop} {S : Nat → Bool} (hS : ∀ i, S i = true → R i) (hR : ∀ e ∈ edges ts, R e.src.toNat → P e.src.toNat = true → R e.to.toNat) : ∀ k i, iterF (passA P ts) k S i = true → R i
  | 0, i, h => hS i h
  | k + 1, i, h => passM_sound (fun i h => iter_sound hS hR k i h) hR _ i h
end
theorem ends_of {ts : List Tm} (hc : closed ts = true) : Ends ts ts.length := fun e he => by
  have h1 := src_range he
  have h2 := (closed_len hc).2.2 e he
  omega
def oneB : Nat → Bool := fun i => decide (i = 0)
/-- The blocks that rounds reach are those that a way goes to. -/
theorem reached_rounds {ts : List Tm} (hc : closed ts = true) {i : Nat} (hi : i < ts.length) : iterF (passA (fun _ => true) ts) ts.length oneB i = true ↔ Rc ts 0 i := by
  have hE := ends_of hc
  have hn := (closed_len hc).1
  have hcnt : 1 ≤ cntB ts.length oneB := by
    have := cntB_up (n := ts.length) (S := fun _ => false) (T := oneB) (fun _ _ h => by cases h) hn rfl rfl
    omega
  constructor
  · intro h
    refine iter_sound (P := fun _ => true) (ts := ts) (R := fun i => Rc ts 0 i) (fun i h => ?_) (fun e he h _ => ?_) _ i h
    · have : i = 0 := of_decide_eq_true h
      rw [this]; exact .refl
    · have h1 := src_range he
      have h2 := (closed_len hc).2.2 e he
      refine .step h ?_
      obtain ⟨k, j, t, hk, hj, h3, h4⟩ := mem_edges.1 he
      rw [show e.src.toNat = k by omega, toAt_some hk, Int.toNat_of_nonneg h2.1]
      exact List.mem_of_getElem? hj
  · intro h
    have hfix := rounds_last (P := fun _ => true) hE hn (.inl hcnt)
    have key : ∀ i, Rc ts 0 i → iterF (passA (fun _ => true) ts) (ts.length - 1) oneB i = true := by
      intro i h
      induction h with
      | refl => exact iter_sub rfl _
      | @step b c hb hbc ih =>
        have hcl := toAt_lt hc hbc
        unfold toAt at hbc
        cases ht : ts[b]? with
        | none => rw [ht] at hbc; cases hbc
        | some t =>
          rw [ht] at hbc
          obtain ⟨j, hj⟩ := List.mem_iff_getElem?.1 hbc
          have hm : (⟨(b : Int), (j : Int), (c : Int)⟩ : Ed) ∈ edges ts := mem_edges.2 ⟨b, j, t, ht, hj, rfl, rfl⟩
          have := hfix.closed hE hm (by show iterF (passA (fun _ => true) ts) (ts.length - 1) oneB (Int.toNat (b : Int)) = true; rw [Int.toNat_natCast]; exact ih) rfl
          simpa using this
    have e0 : ∀ m, iterF (passA (fun _ => true) ts) (m + 1) oneB = passA (fun _ => true) ts (iterF (passA (fun _ => true) ts) m oneB) := fun _ => rfl
    have e := e0 (ts.length - 1)
    rw [Nat.sub_add_cancel hn] at e
    rw [e]
    exact passM_sub (key i h) _
/-- Does a block give a variable no value? -/
def bareP (f : RFun) (v : Int) (b : Nat) : Bool := match f.blocks[b]? with
  | some x => x.ins.all fun i => !decide (defI i = v)
  | none => false
def openB (f : RFun) (v : Int) : Nat → Bool := fun i => decide (i = 0) && !f.params.contains v
open Classical in
/-- May a variable be without a value where it is read? -/
noncomputable def lacksB (f : RFun) (v : Int) : Bool := decide (∃ (b : Nat) (x : RBlk), f.blocks[b]? = some x ∧ exposed x.ins x.term v = true ∧ Bare f v.toNat b)
theorem lacksB_iff {f : RFun} {v : Int} : lacksB f v = true ↔ ∃ (b : Nat) (x : RBlk), f.blocks[b]? = some x ∧ exposed x.ins x.term v = true ∧ Bare f v.toNat b := by
  unfold lacksB; exact @decide_eq_true_iff _ (Classical.propDecidable _)
theorem bare_edge {f : RFun} {v : Int} (hc : closed f.terms = true) : ∀ e ∈ edges f.terms, Bare f v.toNat e.src.toNat → bareP f v e.src.toNat = true → (1 ≤ v) → Bare f v.toNat e.to.toNat := by
  intro e he h hP hv
  have hr := src_range he
  obtain ⟨k, j, t, hk, hj, h3, h4⟩ := mem_edges.1 he
  unfold RFun.terms at hk
  rw [List.getElem?_map] at hk
  have hs : e.src.toNat = k := by omega
  unfold bareP at hP
  rw [hs] at hP h
  cases hx : f.blocks[k]? with
  | none => rw [hx] at hk; cases hk
  | some x =>
    rw [hx] at hk hP
    have ht : x.term = t := Option.some.inj hk
    rw [List.all_eq_true] at hP
    have h0 := ((closed_len hc).2.2 e he).1
    refine .step h hx (fun i hi => ?_) ?_
    · have h1 := hP i hi
      have hd := defI_range i
      have : ¬ defI i = v := by simpa using h1
      omega
    · rw [ht, Int.toNat_of_nonneg h0]
      exact List.mem_of_getElem? hj
theorem open_zero {f : RFun} {v : Int} (hv : 1 ≤ v) (hp : ∀ p ∈ f.params, 1 ≤ p) (i : Nat) (h : openB f v i = true) : Bare f v.toNat i := by
  unfold openB at h
  rw [Bool.and_eq_true, Bool.not_eq_true'] at h
  rw [of_decide_eq_true h.1]
  refine .zero fun p hpm e => ?_
  have := hp p hpm
  have e2 : p = v := by omega
  rw [← e2, List.contains_iff_mem.2 hpm] at h
  cases h.2
theorem open_sound {f : RFun} {v : Int} (hc : closed f.terms = true) (hv : 1 ≤ v) (hp : ∀ p ∈ f.params, 1 ≤ p) (m k i : Nat) (h : passM (bareP f v) f.terms m (iterF (passA (bareP f v) f.terms) k (openB f v)) i = true) : Bare f v.toNat i :=
  passM_sound (R := fun i => Bare f v.toNat i) (fun i h => iter_sound (R := fun i => Bare f v.toNat i) (open_zero hv hp) (fun e he h1 h2 => bare_edge hc e he h1 h2 hv) k i h) (fun e he h1 h2 => bare_edge hc e he h1 h2 hv) m i h
theorem open_full {f : RFun} {v : Int} (hc : closed f.terms = true) (hv : 1 ≤ v) (hp : ∀ p ∈ f.params, 1 ≤ p) {b : Nat} (h : Bare f v.toNat b) : iterF (passA (bareP f v) f.terms) (f.terms.length - 1) (openB f v) b = true := by
  have hE := ends_of hc
  have hn := (closed_len hc).1
  have h0 : 1 ≤ cntB f.terms.length (openB f v) ∨ ∀ i, i < f.terms.length → openB f v i = false := by
    cases hb : openB f v 0 with
    | true =>
      have := cntB_up (n := f.terms.length) (S := fun _ => false) (T := openB f v) (fun _ _ h => by cases h) hn rfl hb
      exact .inl (by omega)
    | false =>
      right
      intro i hi
      by_cases h : i = 0
      · rw [h]; exact hb
      · unfold openB
        rw [decide_eq_false h]; rfl
  have hfix := rounds_last (P := bareP f v) hE hn h0
  induction h with
  | zero hpz =>
    refine iter_sub ?_ _
    unfold openB
    rw [Bool.and_eq_true, Bool.not_eq_true']
    refine ⟨rfl, ?_⟩
    cases hcon : f.params.contains v with
    | false => rfl
    | true => exact absurd rfl (hpz v (List.contains_iff_mem.1 hcon))
  | @step a b x _ hx hd ht ih =>
    obtain ⟨j, hj⟩ := List.mem_iff_getElem?.1 ht
    have htx : f.terms[a]? = some x.term := by unfold RFun.terms; rw [List.getElem?_map, hx]; rfl
    have hm : (⟨(a : Int), (j : Int), (b : Int)⟩ : Ed) ∈ edges f.terms := mem_edges.2 ⟨a, j, x.term, htx, hj, rfl, rfl⟩
    have hP : bareP f v a = true := by
      unfold bareP
      rw [hx, List.all_eq_true]
      intro i hi
      have h1 := hd i hi
      have : ¬ defI i = v := fun e => h1 (by rw [e])
      simp [this]
    have := hfix.closed hE hm (by show iterF (passA (bareP f v) f.terms) (f.terms.length - 1) (openB f v) (Int.toNat (a : Int)) = true; rw [Int.toNat_natCast]; exact ih) (by show bareP f v (Int.toNat (a : Int)) = true; rw [Int.toNat_natCast]; exact hP)
    simpa using this
theorem valued_lacks {f : RFun} : valuedF f = true ↔ ∀ v : Int, 1 ≤ v → v ≤ 200 → lacksB f v = false := by
  rw [valuedF_iff]
  constructor
  · intro h v _ _
    cases hl : lacksB f v with
    | false => rfl
    | true =>
      obtain ⟨b, x, h1, h2, h3⟩ := lacksB_iff.1 hl
      exact absurd h3 (h b x v h1 h2)
  · intro h b x v hx he hb
    have hr := exposed_range he
    have := h v hr.1 hr.2
    rw [lacksB_iff.2 ⟨b, x, hx, he, hb⟩] at this
    cases this
end Go.Proofs.YtcojedoejpcolaaGreat

/- The document's answer of layer 03: a function's length, its shape, what is reached, walked. -/
namespace Go.Proofs.YtcojedoejpcolaaGreat
set_option linter.unusedVariables false
set_option linter.unusedSimpArgs false
open Go Go.RowKit
set_option maxRecDepth 100000

theorem lt_of {a b : Nat} (h : decide ((a : Int) < (b : Int)) = true) : a < b := by have := of_decide_eq_true h; omega
theorem ge_of {a b : Nat} (h : decide ((a : Int) < (b : Int)) = false) : b ≤ a := by have := of_decide_eq_false h; omega
theorem tm_slc {f : RFun} {b : Nat} {x : RBlk} (hx : f.blocks[b]? = some x) : ∀ (j : Nat) (u : Value), x.term.cells[j]? = some u → (f.blocks.flatMap RBlk.cells)[b * 5 + 1 + j]? = some u := fun j u hu => by
  rw [Nat.add_assoc]
  refine blk_cell hx ?_
  rw [Nat.add_comm]
  simpa [RBlk.cells] using hu
theorem ins_slc {f : RFun} {b : Nat} {x : RBlk} (hx : f.blocks[b]? = some x) : (f.blocks.flatMap RBlk.cells)[b * 5 + 0]? = some (.slice x.iA x.ins.length x.iC) := blk_cell hx rfl
section
theorem ref03_long_ct {w : World} {f : RFun} (hf : FunAt w w.heap.size f) (hfit : Fit f) : Ct Tryz.prog 84 #[f.val] w (Is (.bool (longF f))) := by
  have hbl := hfit.blen
  refine Ct.mk Tryz.func84 rfl rfl ?_
  refine Cd.seq ?_
  refine Cd.region ?_
  refine Ol.x bxg ?_
  rintro _ _ ⟨g1, rfl, rfl⟩
  refine Ol.p asb ?_
  refine Ol.nil ?_
  have e : longF f = ((decide ((f.blocks.length : Int) < 1) || (decide (200 < (f.blocks.length : Int)) || decide (8 < (f.params.length : Int)))) || f.blocks.any fun b => decide (64 < b.ins.length)) := by
    unfold longF
    rw [show decide ((f.blocks.length : Int) < 1) = decide (f.blocks.length = 0) by rw [decide_eq_decide]; omega, show decide (200 < (f.blocks.length : Int)) = decide (200 < f.blocks.length) by rw [decide_eq_decide]; omega, show decide (8 < (f.params.length : Int)) = decide (8 < f.params.length) by rw [decide_eq_decide]; omega, Bool.or_assoc (decide (f.blocks.length = 0))]
  refine Cd.seq ?_
  refine Cd.mid (fun σ' L' => Has σ' [(1, .pointer (some ⟨g1, 0, none⟩)), (19, .bool (decide ((f.blocks.length : Int) < 1) || (decide (200 < (f.blocks.length : Int)) || decide (8 < (f.params.length : Int)))))] ∧ [blk g1 (.cells f.cells.toArray 37)] = L') ?_ ?_
  · skip
    cases q0 : decide ((f.blocks.length : Int) < 1) with
    | false =>
      cases q1 : decide (200 < (f.blocks.length : Int)) with
      | false =>
        refine Cd.region ?_
        refine Ol.p (fdl fd_api_Func_1) ?_
        refine Ol.p (ld (v := .slice f.bA f.blocks.length f.bC) one_L_api_Block (Rd.blk (i := 0) rfl rfl)) ?_
        refine Ol.p (lens sl_L_api_Block) ?_
        refine Ol.p lsi ?_
        refine Ol.p mvb ?_
        refine Ol.gp q0 (fdl fd_api_Func_1) ?_
        refine Ol.gp q0 (ld (v := .slice f.bA f.blocks.length f.bC) one_L_api_Block (Rd.blk (i := 0) rfl rfl)) ?_
        refine Ol.gp q0 (lens sl_L_api_Block) ?_
        refine Ol.gp q0 gti ?_
        refine Ol.p (pkFb q0) ?_
        refine Ol.p mvb ?_
        refine Ol.gp q1 (fdl fd_api_Func_0) ?_
        refine Ol.gp q1 (ld (v := .slice f.pA f.params.length f.pC) one_L_int (Rd.blk (i := 0) rfl rfl)) ?_
        refine Ol.gp q1 (lens sl_L_int) ?_
        refine Ol.gp q1 gti ?_
        refine Ol.p (pkFb q1) ?_
        refine Ol.nil ?_
        exact ⟨⟨rfl, rfl, trivial⟩, rfl⟩
      | true =>
        refine Cd.region ?_
        refine Ol.p (fdl fd_api_Func_1) ?_
        refine Ol.p (ld (v := .slice f.bA f.blocks.length f.bC) one_L_api_Block (Rd.blk (i := 0) rfl rfl)) ?_
        refine Ol.p (lens sl_L_api_Block) ?_
        refine Ol.p lsi ?_
        refine Ol.p mvb ?_
        refine Ol.gp q0 (fdl fd_api_Func_1) ?_
        refine Ol.gp q0 (ld (v := .slice f.bA f.blocks.length f.bC) one_L_api_Block (Rd.blk (i := 0) rfl rfl)) ?_
        refine Ol.gp q0 (lens sl_L_api_Block) ?_
        refine Ol.gp q0 gti ?_
        refine Ol.p (pkFb q0) ?_
        refine Ol.p mvb ?_
        refine Ol.gn q1 ?_
        refine Ol.gn q1 ?_
        refine Ol.gn q1 ?_
        refine Ol.gn q1 ?_
        refine Ol.p (pkTb q1) ?_
        refine Ol.nil ?_
        exact ⟨⟨rfl, rfl, trivial⟩, rfl⟩
    | true =>
      refine Cd.region ?_
      refine Ol.p (fdl fd_api_Func_1) ?_
      refine Ol.p (ld (v := .slice f.bA f.blocks.length f.bC) one_L_api_Block (Rd.blk (i := 0) rfl rfl)) ?_
      refine Ol.p (lens sl_L_api_Block) ?_
      refine Ol.p lsi ?_
      refine Ol.p mvb ?_
      refine Ol.gn q0 ?_
      refine Ol.gn q0 ?_
      refine Ol.gn q0 ?_
      refine Ol.gn q0 ?_
      refine Ol.p (pkTb q0) ?_
      refine Ol.p mvb ?_
      refine Ol.gn rfl ?_
      refine Ol.gn rfl ?_
      refine Ol.gn rfl ?_
      refine Ol.gn rfl ?_
      refine Ol.p (pkTb rfl) ?_
      refine Ol.nil ?_
      exact ⟨⟨rfl, rfl, trivial⟩, rfl⟩
  rintro σ' _ ⟨hs', rfl⟩
  refine Cd.has hs' ?_
  clear hs'
  refine Cd.cond rfl (fun h => ?_) (fun h => ?_)   -- $19
  · refine Cd.seq ?_
    refine Cd.region ?_
    refine Ol.p asb ?_
    refine Ol.nil ?_
    exact Cd.ret ⟨.bool true, ret1 rfl rfl, [], Keep.nil, by rw [e, h]; rfl, rfl⟩
  rw [h, Bool.false_or] at e
  refine Cd.skip ?_
  refine Cd.seq ?_
  refine Cd.seq ?_
  refine Cd.region ?_
  refine Ol.p asi ?_
  refine Ol.nil ?_
  refine Cd.block ?_   -- 0
  refine Cd.loop (fun m σ L => ∃ k, m = f.blocks.length - k ∧ k ≤ f.blocks.length ∧ ((f.blocks.take k).any fun b => decide (64 < b.ins.length)) = false ∧ Has σ [(1, .pointer (some ⟨g1, 0, none⟩)), (3, .int .i64 k)] ∧ [blk g1 (.cells f.cells.toArray 37)] = L) (n := f.blocks.length) ⟨0, rfl, Nat.zero_le _, rfl, ⟨rfl, rfl, trivial⟩, rfl⟩ ?_
  rintro _ σ L ⟨k, rfl, hk, hno, hs, rfl⟩
  refine Cd.has hs ?_
  clear hs
  refine Cd.seq ?_
  refine Cd.seq ?_
  refine Cd.region ?_
  refine Ol.p mvi ?_
  refine Ol.p (fdl fd_api_Func_1) ?_
  refine Ol.p (ld (v := .slice f.bA f.blocks.length f.bC) one_L_api_Block (Rd.blk (i := 0) rfl rfl)) ?_
  refine Ol.p (lens sl_L_api_Block) ?_
  refine Ol.p lsi ?_
  refine Ol.nil ?_
  refine Cd.cond rfl (fun h => ?_) (fun h => ?_)   -- $24
  · have hlt := lt_of h
    obtain ⟨x, hx⟩ : ∃ x, f.blocks[k]? = some x := ⟨_, List.getElem?_eq_getElem hlt⟩
    refine Cd.skip ?_
    refine Cd.seq ?_
    refine Cd.block ?_   -- 1
    refine Cd.seq ?_
    refine Cd.region ?_
    refine Ol.p (fdl fd_api_Func_1) ?_
    refine Ol.p (ld (v := .slice f.bA f.blocks.length f.bC) one_L_api_Block (Rd.blk (i := 0) rfl rfl)) ?_
    refine Ol.p mvi ?_
    refine Ol.p (ixn (ix := k) sl_L_api_Block (Som.slc hf.blocks (by omega))) ?_
    refine Ol.p (fdp fd_api_Block_0) ?_
    refine Ol.p (ld (v := .slice x.iA x.ins.length x.iC) one_L_api_Ins (Rd.slc hf.blocks (ins_slc hx))) ?_
    refine Ol.p (lens sl_L_api_Ins) ?_
    refine Ol.p gti ?_
    refine Ol.nil ?_
    refine Cd.cond rfl (fun h2 => ?_) (fun h2 => ?_)   -- $34
    · have h3 : decide (64 < x.ins.length) = true := by
        have := of_decide_eq_true h2
        exact decide_eq_true (by omega)
      refine Cd.seq ?_
      refine Cd.region ?_
      refine Ol.p asb ?_
      refine Ol.nil ?_
      exact Cd.ret ⟨.bool true, ret1 rfl rfl, [], Keep.nil, by rw [e, List.any_eq_true.2 ⟨x, List.mem_of_getElem? hx, h3⟩], rfl⟩
    have h3 : decide (64 < x.ins.length) = false := by
      have := of_decide_eq_false h2
      exact decide_eq_false (by omega)
    refine Cd.skip ?_
    refine Cd.region ?_
    refine Ol.p mvi ?_
    refine Ol.p addi ?_
    refine Ol.p asi ?_
    refine Ol.nil ?_
    refine ⟨f.blocks.length - (k + 1), by omega, k + 1, rfl, by omega, ?_, ⟨rfl, rfl, trivial⟩, rfl⟩
    rw [take_snoc_ hx, List.any_append, hno]
    simp only [List.any_cons, List.any_nil, h3]
    rfl
  have hge := ge_of h
  rw [List.take_of_length_le hge] at hno
  refine Cd.exit (id := 0) ?_
  refine Cd.seq ?_
  refine Cd.region ?_
  refine Ol.p asb ?_
  refine Ol.nil ?_
  exact Cd.ret ⟨.bool false, ret1 rfl rfl, [], Keep.nil, by rw [e, hno], rfl⟩
end
section
set_option maxHeartbeats 1000000 in
theorem ref03_shaped_ct {w : World} {f : RFun} (hf : FunAt w w.heap.size f) (hfit : Fit f) : Ct Tryz.prog 85 #[f.val] w (Is (.bool (wholeF f))) := by
  have hbl := hfit.blen
  have hpl := hfit.plen
  have e : wholeF f = (f.params.all varB && (decide f.params.Nodup && f.blocks.all wholeB)) := by unfold wholeF; rw [Bool.and_assoc]
  have hgp : ∀ (j : Nat) (n : Int), f.params[j]? = some n → (ints f.params)[j * 1]? = some (.int .i64 n) := fun j n h => by simp [ints, h]
  refine Ct.mk Tryz.func85 rfl rfl ?_
  refine Cd.seq ?_
  refine Cd.region ?_
  refine Ol.x bxg ?_
  rintro _ _ ⟨g1, rfl, rfl⟩
  refine Ol.p asb ?_
  refine Ol.nil ?_
  refine Cd.mid (fun σ' L' => (f.params.all varB = true ∧ f.params.Nodup) ∧ Has σ' [(1, .pointer (some ⟨g1, 0, none⟩))] ∧ [blk g1 (.cells f.cells.toArray 37)] = L') ?_ ?_
  · refine Cd.seq ?_
    refine Cd.region ?_
    refine Ol.p asi ?_
    refine Ol.nil ?_
    refine Cd.block ?_   -- 0
    refine Cd.loop (fun m σ L => ∃ k, m = f.params.length - k ∧ k ≤ f.params.length ∧ (f.params.take k).all varB = true ∧ (f.params.take k).Nodup ∧ Has σ [(1, .pointer (some ⟨g1, 0, none⟩)), (3, .int .i64 k)] ∧ [blk g1 (.cells f.cells.toArray 37)] = L) (n := f.params.length) ⟨0, rfl, Nat.zero_le _, rfl, List.nodup_nil, ⟨rfl, rfl, trivial⟩, rfl⟩ ?_
    rintro _ σ L ⟨k, rfl, hk, hall, hnd, hs, rfl⟩
    refine Cd.has hs ?_
    clear hs
    refine Cd.seq ?_
    refine Cd.seq ?_
    refine Cd.region ?_
    refine Ol.p mvi ?_
    refine Ol.p (fdl fd_api_Func_0) ?_
    refine Ol.p (ld (v := .slice f.pA f.params.length f.pC) one_L_int (Rd.blk (i := 0) rfl rfl)) ?_
    refine Ol.p (lens sl_L_int) ?_
    refine Ol.p lsi ?_
    refine Ol.nil ?_
    refine Cd.cond rfl (fun h => ?_) (fun h => ?_)   -- $11
    · have hlt := lt_of h
      obtain ⟨n, hn⟩ : ∃ n, f.params[k]? = some n := ⟨_, List.getElem?_eq_getElem hlt⟩
      refine Cd.skip ?_
      refine Cd.seq ?_
      refine Cd.block ?_   -- 1
      refine Cd.seq ?_
      refine Cd.seq ?_
      refine Cd.region ?_
      refine Ol.p (fdl fd_api_Func_0) ?_
      refine Ol.p (ld (v := .slice f.pA f.params.length f.pC) one_L_int (Rd.blk (i := 0) rfl rfl)) ?_
      refine Ol.p mvi ?_
      refine Ol.p (ixn (ix := k) sl_L_int (Som.slc hf.params (by omega))) ?_
      refine Ol.p (ld (v := .int .i64 n) one_int (Rd.slc hf.params (hgp k n hn))) ?_
      refine Ol.s (cl en_ref03_Var (fun M w' hh => ref03_Var_ct)) ?_
      refine Ol.p noti ?_
      refine Ol.nil ?_
      refine Cd.cond rfl (fun h2 => ?_) (fun h2 => ?_)   -- $20
      · have hno : varB n = false := by simpa using h2
        have e2 : f.params.all varB = false := by
          rw [List.all_eq_false]
          exact ⟨n, List.mem_of_getElem? hn, by rw [hno]; exact fun h => by cases h⟩
        refine Cd.seq ?_
        refine Cd.region ?_
        refine Ol.p asb ?_
        refine Ol.nil ?_
        exact Cd.ret ⟨.bool false, ret1 rfl rfl, [], Keep.nil, by rw [e, e2]; rfl, rfl⟩
      have hyes : varB n = true := by simpa using h2
      refine Cd.skip ?_
      refine Cd.seq ?_
      refine Cd.region ?_
      refine Ol.p asi ?_
      refine Ol.nil ?_
      refine Cd.block ?_   -- 2
      refine Cd.loop (fun m σ L => ∃ j, m = k - j ∧ j ≤ k ∧ n ∉ f.params.take j ∧ Has σ [(1, .pointer (some ⟨g1, 0, none⟩)), (3, .int .i64 k), (4, .int .i64 j)] ∧ [blk g1 (.cells f.cells.toArray 37)] = L) (n := k) ⟨0, rfl, Nat.zero_le _, by simp, ⟨rfl, rfl, rfl, trivial⟩, rfl⟩ ?_
      rintro _ σ L ⟨j, rfl, hj, hni, hs, rfl⟩
      refine Cd.has hs ?_
      clear hs
      refine Cd.seq ?_
      refine Cd.seq ?_
      refine Cd.region ?_
      refine Ol.p mvi ?_
      refine Ol.p mvi ?_
      refine Ol.p lsi ?_
      refine Ol.nil ?_
      refine Cd.cond rfl (fun h3 => ?_) (fun h3 => ?_)   -- $23
      · have hlt3 := lt_of h3
        obtain ⟨n2, hn2⟩ : ∃ n2, f.params[j]? = some n2 := ⟨_, List.getElem?_eq_getElem (by omega)⟩
        refine Cd.skip ?_
        refine Cd.seq ?_
        refine Cd.block ?_   -- 3
        refine Cd.seq ?_
        refine Cd.draw mixed 11 (fun _ => none) (fun _ => []) (by kernel_rfl) (fun _ _ h => by cases h) (fun u hu => ?_)
        refine Wk.p (fdl fd_api_Func_0) ?_
        refine Wk.p (ld (v := .slice f.pA f.params.length f.pC) one_L_int (Rd.blk (i := 0) rfl rfl)) ?_
        refine Wk.p mvi ?_
        refine Wk.p (ixn (ix := j) sl_L_int (Som.slc hf.params (by omega))) ?_
        refine Wk.p (ld (v := .int .i64 n2) one_int (Rd.slc hf.params (hgp j n2 hn2))) ?_
        refine Wk.p (fdl fd_api_Func_0) ?_
        refine Wk.p (ld (v := .slice f.pA f.params.length f.pC) one_L_int (Rd.blk (i := 0) rfl rfl)) ?_
        refine Wk.p mvi ?_
        refine Wk.p (ixn (ix := k) sl_L_int (Som.slc hf.params (by omega))) ?_
        refine Wk.p (ld (v := .int .i64 n) one_int (Rd.slc hf.params (hgp k n hn))) ?_
        refine Wk.p eqi ?_
        refine Wk.nil ?_
        refine Ol.nil ?_
        refine Cd.cond rfl (fun h4 => ?_) (fun h4 => ?_)   -- $36
        · have h4 : n2 = n := of_decide_eq_true h4
          have e2 : decide f.params.Nodup = false := by
            refine decide_eq_false fun hd => ?_
            obtain ⟨hl1, he1⟩ := List.getElem?_eq_some_iff.1 hn2
            obtain ⟨hl2, he2⟩ := List.getElem?_eq_some_iff.1 hn
            exact List.pairwise_iff_getElem.1 hd j k hl1 hl2 hlt3 (by rw [he1, he2, h4])
          refine Cd.seq ?_
          refine Cd.region ?_
          refine Ol.p asb ?_
          refine Ol.nil ?_
          exact Cd.ret ⟨.bool false, ret1 rfl rfl, [], Keep.nil, by rw [e, e2]; simp, rfl⟩
        have h4 : ¬ n2 = n := of_decide_eq_false h4
        refine Cd.skip ?_
        refine Cd.region ?_
        refine Ol.p mvi ?_
        refine Ol.p addi ?_
        refine Ol.p asi ?_
        refine Ol.nil ?_
        refine ⟨k - (j + 1), by omega, j + 1, rfl, by omega, ?_, ⟨rfl, rfl, rfl, trivial⟩, rfl⟩
        rw [take_snoc_ hn2]
        intro hm
        rcases List.mem_append.1 hm with hm | hm
        · exact hni hm
        · exact h4 (List.mem_singleton.1 hm).symm
      have hge3 := ge_of h3
      have hjk : j = k := by omega
      rw [hjk] at hni
      refine Cd.exit (id := 2) ?_
      refine Cd.region ?_
      refine Ol.p mvi ?_
      refine Ol.p addi ?_
      refine Ol.p asi ?_
      refine Ol.nil ?_
      refine ⟨f.params.length - (k + 1), by omega, k + 1, rfl, by omega, ?_, ?_, ⟨rfl, rfl, trivial⟩, rfl⟩
      · rw [take_snoc_ hn, List.all_append, hall]
        simp [hyes]
      · rw [take_snoc_ hn]
        exact List.nodup_append.2 ⟨hnd, List.nodup_cons.2 ⟨by simp, List.nodup_nil⟩, fun a ha b hb hab => by
          rw [List.mem_singleton.1 hb] at hab
          exact hni (hab ▸ ha)⟩
    have hge := ge_of h
    rw [List.take_of_length_le hge] at hall hnd
    refine Cd.exit (id := 0) ?_
    exact ⟨⟨hall, hnd⟩, ⟨rfl, trivial⟩, rfl⟩
  rintro σ' _ ⟨⟨hall, hnd⟩, hs', rfl⟩
  refine Cd.has hs' ?_
  clear hs'
  rw [hall, decide_eq_true hnd, Bool.true_and, Bool.true_and] at e
  refine Cd.seq ?_
  refine Cd.seq ?_
  refine Cd.region ?_
  refine Ol.p asi ?_
  refine Ol.nil ?_
  refine Cd.block ?_   -- 4
  refine Cd.loop (fun m σ L => ∃ k, m = f.blocks.length - k ∧ k ≤ f.blocks.length ∧ (f.blocks.take k).all wholeB = true ∧ Has σ [(1, .pointer (some ⟨g1, 0, none⟩)), (5, .int .i64 k)] ∧ [blk g1 (.cells f.cells.toArray 37)] = L) (n := f.blocks.length) ⟨0, rfl, Nat.zero_le _, rfl, ⟨rfl, rfl, trivial⟩, rfl⟩ ?_
  rintro _ σ L ⟨k, rfl, hk, hbs, hs, rfl⟩
  refine Cd.has hs ?_
  clear hs
  refine Cd.seq ?_
  refine Cd.seq ?_
  refine Cd.region ?_
  refine Ol.p mvi ?_
  refine Ol.p (fdl fd_api_Func_1) ?_
  refine Ol.p (ld (v := .slice f.bA f.blocks.length f.bC) one_L_api_Block (Rd.blk (i := 0) rfl rfl)) ?_
  refine Ol.p (lens sl_L_api_Block) ?_
  refine Ol.p lsi ?_
  refine Ol.nil ?_
  refine Cd.cond rfl (fun h => ?_) (fun h => ?_)   -- $41
  · have hlt := lt_of h
    obtain ⟨x, hx⟩ : ∃ x, f.blocks[k]? = some x := ⟨_, List.getElem?_eq_getElem hlt⟩
    have hxm := List.mem_of_getElem? hx
    have hxl := hfit.ilen x hxm
    have hbad : wholeB x = false → wholeF f = false := fun hw => by
      rw [e, List.all_eq_false]
      exact ⟨x, hxm, by rw [hw]; exact fun h => by cases h⟩
    refine Cd.skip ?_
    refine Cd.seq ?_
    refine Cd.block ?_   -- 5
    refine Cd.mid (fun σ' L' => x.ins.all isIns = true ∧ Has σ' [(1, .pointer (some ⟨g1, 0, none⟩)), (5, .int .i64 k)] ∧ [blk g1 (.cells f.cells.toArray 37)] = L') ?_ ?_
    · refine Cd.seq ?_
      refine Cd.region ?_
      refine Ol.p asi ?_
      refine Ol.nil ?_
      refine Cd.block ?_   -- 6
      refine Cd.loop (fun m σ L => ∃ j, m = x.ins.length - j ∧ j ≤ x.ins.length ∧ (x.ins.take j).all isIns = true ∧ Has σ [(1, .pointer (some ⟨g1, 0, none⟩)), (5, .int .i64 k), (6, .int .i64 j)] ∧ [blk g1 (.cells f.cells.toArray 37)] = L) (n := x.ins.length) ⟨0, rfl, Nat.zero_le _, rfl, ⟨rfl, rfl, rfl, trivial⟩, rfl⟩ ?_
      rintro _ σ L ⟨j, rfl, hj, his, hs, rfl⟩
      refine Cd.has hs ?_
      clear hs
      refine Cd.seq ?_
      refine Cd.seq ?_
      refine Cd.region ?_
      refine Ol.p mvi ?_
      refine Ol.p (fdl fd_api_Func_1) ?_
      refine Ol.p (ld (v := .slice f.bA f.blocks.length f.bC) one_L_api_Block (Rd.blk (i := 0) rfl rfl)) ?_
      refine Ol.p mvi ?_
      refine Ol.p (ixn (ix := k) sl_L_api_Block (Som.slc hf.blocks (by omega))) ?_
      refine Ol.p (fdp fd_api_Block_0) ?_
      refine Ol.p (ld (v := .slice x.iA x.ins.length x.iC) one_L_api_Ins (Rd.slc hf.blocks (ins_slc hx))) ?_
      refine Ol.p (lens sl_L_api_Ins) ?_
      refine Ol.p lsi ?_
      refine Ol.nil ?_
      refine Cd.cond rfl (fun h2 => ?_) (fun h2 => ?_)   -- $52
      · have hlt2 := lt_of h2
        obtain ⟨i, hi⟩ : ∃ i, x.ins[j]? = some i := ⟨_, List.getElem?_eq_getElem hlt2⟩
        have him := List.mem_of_getElem? hi
        refine Cd.skip ?_
        refine Cd.seq ?_
        refine Cd.block ?_   -- 7
        refine Cd.seq ?_
        refine Cd.region ?_
        refine Ol.p (fdl fd_api_Func_1) ?_
        refine Ol.p (ld (v := .slice f.bA f.blocks.length f.bC) one_L_api_Block (Rd.blk (i := 0) rfl rfl)) ?_
        refine Ol.p mvi ?_
        refine Ol.p (ixn (ix := k) sl_L_api_Block (Som.slc hf.blocks (by omega))) ?_
        refine Ol.p (fdp fd_api_Block_0) ?_
        refine Ol.p (ld (v := .slice x.iA x.ins.length x.iC) one_L_api_Ins (Rd.slc hf.blocks (ins_slc hx))) ?_
        refine Ol.p mvi ?_
        refine Ol.p (ixn (ix := j) sl_L_api_Ins (Som.slc (hf.ins x hxm) (by omega))) ?_
        refine Ol.p (lds (es := i.cells) ag_api_Ins (hf.ins x hxm) i.len (fun q u hu => ins_cell hi hu)) ?_
        refine Ol.s (cl (v := .bool (isIns i)) en_ref03_IsIns (fun M w' hh => ref03_IsIns_ct ((hf.args x hxm i him).now hh) (by have := hfit.alen x hxm i him; omega))) ?_
        refine Ol.p noti ?_
        refine Ol.nil ?_
        refine Cd.cond rfl (fun h3 => ?_) (fun h3 => ?_)   -- $65
        · have hno : isIns i = false := by simpa using h3
          have e2 : wholeB x = false := by
            unfold wholeB
            rw [List.all_eq_false.2 ⟨i, him, by rw [hno]; exact fun h => by cases h⟩, Bool.and_false]
          refine Cd.seq ?_
          refine Cd.region ?_
          refine Ol.p asb ?_
          refine Ol.nil ?_
          exact Cd.ret ⟨.bool false, ret1 rfl rfl, [], Keep.nil, by rw [hbad e2], rfl⟩
        have hyes : isIns i = true := by simpa using h3
        refine Cd.skip ?_
        refine Cd.region ?_
        refine Ol.p mvi ?_
        refine Ol.p addi ?_
        refine Ol.p asi ?_
        refine Ol.nil ?_
        refine ⟨x.ins.length - (j + 1), by omega, j + 1, rfl, by omega, ?_, ⟨rfl, rfl, rfl, trivial⟩, rfl⟩
        rw [take_snoc_ hi, List.all_append, his]
        simp [hyes]
      have hge2 := ge_of h2
      rw [List.take_of_length_le hge2] at his
      refine Cd.exit (id := 6) ?_
      exact ⟨his, ⟨rfl, rfl, trivial⟩, rfl⟩
    rintro σ' _ ⟨his, hs', rfl⟩
    refine Cd.has hs' ?_
    clear hs'
    refine Cd.seq ?_
    refine Cd.region ?_
    refine Ol.p (fdl fd_api_Func_1) ?_
    refine Ol.p (ld (v := .slice f.bA f.blocks.length f.bC) one_L_api_Block (Rd.blk (i := 0) rfl rfl)) ?_
    refine Ol.p mvi ?_
    refine Ol.p (ixn (ix := k) sl_L_api_Block (Som.slc hf.blocks (by omega))) ?_
    refine Ol.p (fdp fd_api_Block_1) ?_
    refine Ol.p (lds (es := x.term.cells) ag_api_Term hf.blocks rfl (tm_slc hx)) ?_
    refine Ol.s (cl (v := .bool (isTerm x.term)) en_ref03_IsTerm (fun M w' hh => ref03_IsTerm_ct (t := x.term))) ?_
    refine Ol.p noti ?_
    refine Ol.nil ?_
    refine Cd.cond rfl (fun h2 => ?_) (fun h2 => ?_)   -- $73
    · have hno : isTerm x.term = false := by simpa using h2
      have e2 : wholeB x = false := by unfold wholeB; rw [hno]; rfl
      refine Cd.seq ?_
      refine Cd.region ?_
      refine Ol.p asb ?_
      refine Ol.nil ?_
      exact Cd.ret ⟨.bool false, ret1 rfl rfl, [], Keep.nil, by rw [hbad e2], rfl⟩
    have hyes : isTerm x.term = true := by simpa using h2
    refine Cd.skip ?_
    refine Cd.region ?_
    refine Ol.p mvi ?_
    refine Ol.p addi ?_
    refine Ol.p asi ?_
    refine Ol.nil ?_
    refine ⟨f.blocks.length - (k + 1), by omega, k + 1, rfl, by omega, ?_, ⟨rfl, rfl, trivial⟩, rfl⟩
    rw [take_snoc_ hx, List.all_append, hbs]
    simp [wholeB, hyes, his]
  have hge := ge_of h
  rw [List.take_of_length_le hge] at hbs
  refine Cd.exit (id := 4) ?_
  refine Cd.seq ?_
  refine Cd.region ?_
  refine Ol.p asb ?_
  refine Ol.nil ?_
  exact Cd.ret ⟨.bool true, ret1 rfl rfl, [], Keep.nil, by rw [e, hbs], rfl⟩
end
end Go.Proofs.YtcojedoejpcolaaGreat

/- The document's answer of layer 03: what is reached, walked. -/
namespace Go.Proofs.YtcojedoejpcolaaGreat
set_option linter.unusedVariables false
set_option linter.unusedSimpArgs false
open Go Go.RowKit
set_option maxRecDepth 100000

theorem boolsL_put {n x : Nat} {S : Nat → Bool} {c : Bool} : (boolsL n S).set x (.bool c) = boolsL n fun i => if i = x then c else S i := by
  apply List.ext_getElem?
  intro i
  rw [List.getElem?_set]
  unfold boolsL
  by_cases h : x = i
  · subst h
    by_cases hl : x < n
    · simp [hl]
    · simp [hl]
  · have h' : ¬ i = x := fun e => h e.symm
    rw [if_neg h, List.getElem?_map, List.getElem?_map]
    by_cases hl : i < n
    · rw [List.getElem?_range hl]
      simp [h']
    · rw [List.getElem?_eq_none (by simp; omega)]
      rfl
theorem boolsL_same {n : Nat} {S T : Nat → Bool} (h : ∀ i, i < n → S i = T i) : boolsL n S = boolsL n T := by
  unfold boolsL
  apply List.map_congr_left
  intro i hi
  rw [h i (by simpa using hi)]
theorem toL_edge {f : RFun} {b j : Nat} {x : RBlk} {n : Int} (hx : f.blocks[b]? = some x) (hn : (toL x.term)[j]? = some n) : (edges f.terms)[(edgesTo f.terms b).length + j]? = some ⟨(b : Int), (j : Int), n⟩ := by
  have ht : f.terms[b]? = some x.term := by unfold RFun.terms; rw [List.getElem?_map, hx]; rfl
  exact edges_get ht hn
theorem edgesTo_next {f : RFun} {b : Nat} {x : RBlk} (hx : f.blocks[b]? = some x) : (edgesTo f.terms (b + 1)).length = (edgesTo f.terms b).length + (toL x.term).length := by
  have ht : f.terms[b]? = some x.term := by unfold RFun.terms; rw [List.getElem?_map, hx]; rfl
  rw [edgesTo_succ ht, List.length_append, edgesB_len]
section
/-- What the document's rounds reach; or an edge goes where it may not. -/
def ReachR (f : RFun) : Value → List Res → Prop := fun v R =>
  (okEs f.terms = false ∧ v = .tuple #[.slice none 0 0, .bool false] ∧ R = []) ∨
  (okEs f.terms = true ∧ ∃ A c, v = .tuple #[.slice A f.blocks.length c, .bool true] ∧ R = [row (.slice A f.blocks.length c) 4 1 f.blocks.length (boolsL f.blocks.length (iterF (passA (fun _ => true) f.terms) f.blocks.length oneB))])
set_option maxHeartbeats 4000000 in
theorem ref03_reached_ct {w : World} {f : RFun} (hf : FunAt w w.heap.size f) (hfit : Fit f) (h0 : 0 < f.blocks.length) (h200 : f.blocks.length ≤ 200) : Ct Tryz.prog 88 #[f.val] w (ReachR f) := by
  have htl : f.terms.length = f.blocks.length := by simp [RFun.terms]
  have hbad : ∀ {b j : Nat} {x : RBlk} {n : Int}, f.blocks[b]? = some x → (toL x.term)[j]? = some n → (n < 1 ∨ (f.blocks.length : Int) ≤ n) → okEs f.terms = false := fun {b j x n} hx hn hb => by
    cases hok : okEs f.terms with
    | false => rfl
    | true =>
      have ht : f.terms[b]? = some x.term := by unfold RFun.terms; rw [List.getElem?_map, hx]; rfl
      have := okEs_at hok (a := b) (n := n) (by rw [toAt_some ht]; exact List.mem_of_getElem? hn)
      omega
  refine Ct.mk Tryz.func88 rfl rfl ?_
  refine Cd.seq ?_
  refine Cd.region ?_
  refine Ol.x bxg ?_
  rintro _ _ ⟨g1, rfl, rfl⟩
  refine Ol.p ass ?_
  refine Ol.p asb ?_
  refine Ol.nil ?_
  refine Cd.seq ?_
  refine Cd.region ?_
  refine Ol.p (fdl fd_api_Func_1) ?_
  refine Ol.p (ld (v := .slice f.bA f.blocks.length f.bC) one_L_api_Block (Rd.blk (i := 0) rfl rfl)) ?_
  refine Ol.p (lens sl_L_api_Block) ?_
  refine Ol.x (mks (n := f.blocks.length) (c := f.blocks.length) sl_L_bool zr_bool) ?_
  rintro _ _ ⟨gs, rfl, rfl⟩
  refine Ol.p ass ?_
  refine Ol.nil ?_
  rw [show (madeCells (Value.bool false).cells (f.blocks.length * 1)).toList.take (f.blocks.length * 1) = boolsL f.blocks.length fun _ => false from made_bools _]
  refine Cd.seq ?_
  refine Cd.region ?_
  refine Ol.p mvs ?_
  refine Ol.p (ixn1 (ix := 0) sl_L_bool (Som.row (i := 0) rfl (by omega))) ?_
  refine Ol.s (str (i := 0) (k := 0) (v := .bool true) sz_bool rfl rfl rfl (by rw [boolsL_len]; exact h0) rfl) ?_
  refine Ol.nil ?_
  rw [show (boolsL f.blocks.length fun _ => false).set 0 (.bool true) = boolsL f.blocks.length oneB from by rw [boolsL_put]; exact boolsL_same fun i _ => by unfold oneB; by_cases h : i = 0 <;> simp [h]]
  refine Cd.seq ?_
  refine Cd.seq ?_
  refine Cd.region ?_
  refine Ol.p asi ?_
  refine Ol.nil ?_
  refine Cd.block ?_   -- 0
  refine Cd.loop (fun m σ L => ∃ r, m = f.blocks.length - r ∧ r ≤ f.blocks.length ∧ (r = 0 ∨ okEs f.terms = true) ∧ Has σ [(1, .pointer (some ⟨g1, 0, none⟩)), (4, .slice (some ⟨gs, 0, none⟩) f.blocks.length f.blocks.length), (5, .int .i64 r)] ∧ [row (.slice (some ⟨gs, 0, none⟩) f.blocks.length f.blocks.length) 4 1 f.blocks.length (boolsL f.blocks.length (iterF (passA (fun _ => true) f.terms) r oneB)), blk g1 (.cells f.cells.toArray 37)] = L) (n := f.blocks.length) ⟨0, rfl, Nat.zero_le _, .inl rfl, ⟨rfl, rfl, rfl, trivial⟩, rfl⟩ ?_
  rintro _ σ L ⟨r, rfl, hr, hrok, hs, rfl⟩
  refine Cd.has hs ?_
  clear hs
  obtain ⟨S, hS⟩ : ∃ S, S = iterF (passA (fun _ => true) f.terms) r oneB := ⟨_, rfl⟩
  rw [← hS]
  refine Cd.seq ?_
  refine Cd.seq ?_
  refine Cd.region ?_
  refine Ol.p mvi ?_
  refine Ol.p (fdl fd_api_Func_1) ?_
  refine Ol.p (ld (v := .slice f.bA f.blocks.length f.bC) one_L_api_Block (Rd.blk (i := 1) rfl rfl)) ?_
  refine Ol.p (lens sl_L_api_Block) ?_
  refine Ol.p lsi ?_
  refine Ol.nil ?_
  refine Cd.cond rfl (fun h => ?_) (fun h => ?_)   -- $19
  · have hlt := lt_of h
    refine Cd.skip ?_
    refine Cd.seq ?_
    refine Cd.block ?_   -- 1
    refine Cd.seq ?_
    refine Cd.region ?_
    refine Ol.p asi ?_
    refine Ol.nil ?_
    refine Cd.block ?_   -- 2
    refine Cd.loop (fun m σ L => ∃ b, m = f.blocks.length - b ∧ b ≤ f.blocks.length ∧ ((f.terms.take b).all fun t => (toL t).all fun n => decide (1 ≤ n) && decide (n < (f.terms.length : Int))) = true ∧ Has σ [(1, .pointer (some ⟨g1, 0, none⟩)), (4, .slice (some ⟨gs, 0, none⟩) f.blocks.length f.blocks.length), (5, .int .i64 r), (6, .int .i64 b)] ∧ [row (.slice (some ⟨gs, 0, none⟩) f.blocks.length f.blocks.length) 4 1 f.blocks.length (boolsL f.blocks.length (passM (fun _ => true) f.terms (edgesTo f.terms b).length S)), blk g1 (.cells f.cells.toArray 37)] = L) (n := f.blocks.length) ⟨0, rfl, Nat.zero_le _, rfl, ⟨rfl, rfl, rfl, rfl, trivial⟩, rfl⟩ ?_
    rintro _ σ L ⟨b, rfl, hb, hall, hs, rfl⟩
    refine Cd.has hs ?_
    clear hs
    refine Cd.seq ?_
    refine Cd.seq ?_
    refine Cd.region ?_
    refine Ol.p mvi ?_
    refine Ol.p (fdl fd_api_Func_1) ?_
    refine Ol.p (ld (v := .slice f.bA f.blocks.length f.bC) one_L_api_Block (Rd.blk (i := 1) rfl rfl)) ?_
    refine Ol.p (lens sl_L_api_Block) ?_
    refine Ol.p lsi ?_
    refine Ol.nil ?_
    refine Cd.cond rfl (fun h2 => ?_) (fun h2 => ?_)   -- $26
    · have hlt2 := lt_of h2
      obtain ⟨x, hx⟩ : ∃ x, f.blocks[b]? = some x := ⟨_, List.getElem?_eq_getElem hlt2⟩
      have ht : f.terms[b]? = some x.term := by unfold RFun.terms; rw [List.getElem?_map, hx]; rfl
      obtain ⟨to, hto⟩ : ∃ to, to = toL x.term := ⟨_, rfl⟩
      have hto2 : to.length ≤ 2 := by rw [hto]; exact toL_len _
      refine Cd.skip ?_
      refine Cd.seq ?_
      refine Cd.block ?_   -- 3
      refine Cd.seq ?_
      refine Cd.region ?_
      refine Ol.p (fdl fd_api_Func_1) ?_
      refine Ol.p (ld (v := .slice f.bA f.blocks.length f.bC) one_L_api_Block (Rd.blk (i := 1) rfl rfl)) ?_
      refine Ol.p mvi ?_
      refine Ol.p (ixn (ix := b) sl_L_api_Block (Som.slc hf.blocks (by omega))) ?_
      refine Ol.p (fdp fd_api_Block_1) ?_
      refine Ol.p (lds (es := x.term.cells) ag_api_Term hf.blocks rfl (tm_slc hx)) ?_
      refine Ol.x (sp_call (vs := [x.term.val]) (R := NewL 3 1 to.length (ints to)) en_ref03_To (fun M w' hh => hto ▸ ref03_To_ct (t := x.term))) ?_
      rintro _ _ ⟨_, rfl, A35, c35, rfl, rfl⟩
      refine Ol.p ass ?_
      refine Ol.nil ?_
      refine Cd.seq ?_
      refine Cd.region ?_
      refine Ol.p asi ?_
      refine Ol.nil ?_
      refine Cd.block ?_   -- 4
      refine Cd.loop (fun m σ L => ∃ j, m = to.length - j ∧ j ≤ to.length ∧ ((to.take j).all fun n => decide (1 ≤ n) && decide (n < (f.terms.length : Int))) = true ∧ Has σ [(1, .pointer (some ⟨g1, 0, none⟩)), (4, .slice (some ⟨gs, 0, none⟩) f.blocks.length f.blocks.length), (5, .int .i64 r), (6, .int .i64 b), (7, .slice A35 to.length c35), (8, .int .i64 j)] ∧ [row (.slice A35 to.length c35) 3 1 to.length (ints to), row (.slice (some ⟨gs, 0, none⟩) f.blocks.length f.blocks.length) 4 1 f.blocks.length (boolsL f.blocks.length (passM (fun _ => true) f.terms ((edgesTo f.terms b).length + j) S)), blk g1 (.cells f.cells.toArray 37)] = L) (n := to.length) ⟨0, rfl, Nat.zero_le _, rfl, ⟨rfl, rfl, rfl, rfl, rfl, rfl, trivial⟩, rfl⟩ ?_
      rintro _ σ L ⟨j, rfl, hj, hto3, hs, rfl⟩
      refine Cd.has hs ?_
      clear hs
      refine Cd.seq ?_
      refine Cd.seq ?_
      refine Cd.region ?_
      refine Ol.p mvi ?_
      refine Ol.p mvs ?_
      refine Ol.p (lens sl_L_int) ?_
      refine Ol.p lsi ?_
      refine Ol.nil ?_
      refine Cd.cond rfl (fun h3 => ?_) (fun h3 => ?_)   -- $39
      · have hlt3 := lt_of h3
        obtain ⟨n, hn⟩ : ∃ n, to[j]? = some n := ⟨_, List.getElem?_eq_getElem hlt3⟩
        have hnv : (ints to)[j * 1]? = some (.int .i64 n) := by simp [ints, hn]
        have hed := toL_edge hx (hto ▸ hn)
        refine Cd.skip ?_
        refine Cd.seq ?_
        refine Cd.block ?_   -- 5
        refine Cd.seq ?_
        obtain ⟨T, hT⟩ : ∃ T, T = passM (fun _ => true) f.terms ((edgesTo f.terms b).length + j) S := ⟨_, rfl⟩
        rw [← hT]
        obtain ⟨L0, hL0⟩ : ∃ L0, L0 = [row (.slice A35 to.length c35) 3 1 to.length (ints to), row (.slice (some ⟨gs, 0, none⟩) f.blocks.length f.blocks.length) 4 1 f.blocks.length (boolsL f.blocks.length T), blk g1 (.cells f.cells.toArray 37)] := ⟨_, rfl⟩
        refine Cd.mid (fun σ' L' => Has σ' [(1, .pointer (some ⟨g1, 0, none⟩)), (4, .slice (some ⟨gs, 0, none⟩) f.blocks.length f.blocks.length), (5, .int .i64 r), (6, .int .i64 b), (7, .slice A35 to.length c35), (8, .int .i64 j), (56, .bool (decide (n < 1) || decide ((f.blocks.length : Int) ≤ n)))] ∧ L0 = L') ?_ ?_
        · rw [← hL0]
          subst hL0
          cases q0 : decide (n < 1) with
          | true =>
            refine Cd.draw mixed 15 (fun _ => none) (fun _ => []) (by kernel_rfl) (fun _ _ h => by cases h) (fun u hu => ?_)
            refine Wk.p mvs ?_
            refine Wk.p mvi ?_
            refine Wk.p (ixn (ix := j) sl_L_int (Som.row (i := 0) rfl (by omega))) ?_
            refine Wk.p (ld (v := .int .i64 n) one_int (Rd.row (i := 0) rfl hnv)) ?_
            refine Wk.p lsi ?_
            refine Wk.p mvb ?_
            refine Wk.gn q0 ?_
            refine Wk.gn q0 ?_
            refine Wk.gn q0 ?_
            refine Wk.gn q0 ?_
            refine Wk.gn q0 ?_
            refine Wk.gn q0 ?_
            refine Wk.gn q0 ?_
            refine Wk.gn q0 ?_
            refine Wk.p (pkTb q0) ?_
            refine Wk.nil ?_
            refine Ol.nil ?_
            exact ⟨⟨rfl, rfl, rfl, rfl, rfl, rfl, rfl, trivial⟩, rfl⟩
          | false =>
            refine Cd.draw mixed 15 (fun _ => none) (fun _ => []) (by kernel_rfl) (fun _ _ h => by cases h) (fun u hu => ?_)
            refine Wk.p mvs ?_
            refine Wk.p mvi ?_
            refine Wk.p (ixn (ix := j) sl_L_int (Som.row (i := 0) rfl (by omega))) ?_
            refine Wk.p (ld (v := .int .i64 n) one_int (Rd.row (i := 0) rfl hnv)) ?_
            refine Wk.p lsi ?_
            refine Wk.p mvb ?_
            refine Wk.gp q0 mvs ?_
            refine Wk.gp q0 mvi ?_
            refine Wk.gp q0 (ixn (ix := j) sl_L_int (Som.row (i := 0) rfl (by omega))) ?_
            refine Wk.gp q0 (ld (v := .int .i64 n) one_int (Rd.row (i := 0) rfl hnv)) ?_
            refine Wk.gp q0 (fdl fd_api_Func_1) ?_
            refine Wk.gp q0 (ld (v := .slice f.bA f.blocks.length f.bC) one_L_api_Block (Rd.blk (i := 2) rfl rfl)) ?_
            refine Wk.gp q0 (lens sl_L_api_Block) ?_
            refine Wk.gp q0 gei ?_
            refine Wk.p (pkFb q0) ?_
            refine Wk.nil ?_
            refine Ol.nil ?_
            exact ⟨⟨rfl, rfl, rfl, rfl, rfl, rfl, rfl, trivial⟩, rfl⟩
        rintro σ' _ ⟨hs', rfl⟩
        refine Cd.has hs' ?_
        clear hs'
        refine Cd.cond rfl (fun h4 => ?_) (fun h4 => ?_)   -- $56
        · have h5 : n < 1 ∨ (f.blocks.length : Int) ≤ n := by
            rw [Bool.or_eq_true, decide_eq_true_iff, decide_eq_true_iff] at h4
            exact h4
          refine Cd.seq ?_
          refine Cd.region ?_
          refine Ol.p ass ?_
          refine Ol.p asb ?_
          refine Ol.nil ?_
          exact Cd.ret ⟨.tuple #[.slice none 0 0, .bool false], ret2 rfl rfl rfl, [], Keep.nil, .inl ⟨hbad hx (hto ▸ hn) h5, rfl, rfl⟩⟩
        have h5 : 1 ≤ n ∧ n < (f.blocks.length : Int) := by
          rw [Bool.or_eq_false_iff, decide_eq_false_iff_not, decide_eq_false_iff_not] at h4
          omega
        obtain ⟨q, hq⟩ : ∃ q : Nat, n = (q : Int) := ⟨n.toNat, by omega⟩
        have hql : q < f.blocks.length := by omega
        have hbv : (boolsL f.blocks.length T)[q * 1]? = some (.bool (T q)) := by rw [Nat.mul_one]; exact boolsL_get hql
        have hbv2 : (boolsL f.blocks.length T)[b * 1]? = some (.bool (T b)) := by rw [Nat.mul_one]; exact boolsL_get hlt2
        have hup : passM (fun _ => true) f.terms ((edgesTo f.terms b).length + (j + 1)) S = fun i => if i = q then T q || T b else T i := by
          rw [← Nat.add_assoc, passM_succ hed, ← hT]
          funext i
          unfold upE orB
          show (if i = (n).toNat then T i || (T ((b : Int).toNat) && true) else T i) = _
          rw [hq, Int.toNat_natCast, Int.toNat_natCast, Bool.and_true]
          by_cases h : i = q
          · rw [if_pos h, if_pos h, h]
          · rw [if_neg h, if_neg h]
        refine Cd.skip ?_
        subst hL0
        have hto4 : ((to.take (j + 1)).all fun n => decide (1 ≤ n) && decide (n < (f.terms.length : Int))) = true := by
          rw [take_snoc_ hn, List.all_append, hto3]
          simp [htl, h5.1, h5.2]
        cases q12 : T q with
        | true =>
          rw [q12] at hbv
          refine Cd.draw mixed 18 (fun _ => none) (fun _ => []) (by kernel_rfl) (fun _ _ h => by cases h) (fun u hu => ?_)
          refine Wk.p mvs ?_
          refine Wk.p mvs ?_
          refine Wk.p mvi ?_
          refine Wk.p (ixn (ix := j) sl_L_int (Som.row (i := 0) rfl (by omega))) ?_
          refine Wk.p (ld (v := .int .i64 n) one_int (Rd.row (i := 0) rfl hnv)) ?_
          refine Wk.p mvs ?_
          refine Wk.p mvs ?_
          refine Wk.p mvi ?_
          refine Wk.p (ixn (ix := j) sl_L_int (Som.row (i := 0) rfl (by omega))) ?_
          refine Wk.p (ld (v := .int .i64 n) one_int (Rd.row (i := 0) rfl hnv)) ?_
          refine Wk.p (ixn (ix := q) sl_L_bool (Som.row (i := 1) rfl (by omega)) (hy := congrArg (Value.int .i64) hq)) ?_
          refine Wk.p (ld (v := .bool true) one_bool (Rd.row (i := 1) rfl hbv)) ?_
          refine Wk.p mvb ?_
          refine Wk.gn rfl ?_
          refine Wk.gn rfl ?_
          refine Wk.gn rfl ?_
          refine Wk.gn rfl ?_
          refine Wk.p (pkTb rfl) ?_
          refine Wk.nil ?_
          refine Ol.p (ixn (ix := q) sl_L_bool (Som.row (i := 1) rfl (by omega)) (hy := congrArg (Value.int .i64) hq)) ?_
          refine Ol.s (str (i := 1) (k := q * 1) (v := .bool true) sz_bool rfl rfl rfl (by rw [boolsL_len]; omega) rfl) ?_
          refine Ol.nil ?_
          refine Cd.region ?_
          refine Ol.p mvi ?_
          refine Ol.p addi ?_
          refine Ol.p asi ?_
          refine Ol.nil ?_
          refine ⟨to.length - (j + 1), by omega, j + 1, rfl, by omega, hto4, ⟨rfl, rfl, rfl, rfl, rfl, rfl, trivial⟩, ?_⟩
          rw [hup, ← boolsL_put, q12, Bool.true_or, Nat.mul_one]; rfl
        | false =>
          rw [q12] at hbv
          refine Cd.draw mixed 18 (fun _ => none) (fun _ => []) (by kernel_rfl) (fun _ _ h => by cases h) (fun u hu => ?_)
          refine Wk.p mvs ?_
          refine Wk.p mvs ?_
          refine Wk.p mvi ?_
          refine Wk.p (ixn (ix := j) sl_L_int (Som.row (i := 0) rfl (by omega))) ?_
          refine Wk.p (ld (v := .int .i64 n) one_int (Rd.row (i := 0) rfl hnv)) ?_
          refine Wk.p mvs ?_
          refine Wk.p mvs ?_
          refine Wk.p mvi ?_
          refine Wk.p (ixn (ix := j) sl_L_int (Som.row (i := 0) rfl (by omega))) ?_
          refine Wk.p (ld (v := .int .i64 n) one_int (Rd.row (i := 0) rfl hnv)) ?_
          refine Wk.p (ixn (ix := q) sl_L_bool (Som.row (i := 1) rfl (by omega)) (hy := congrArg (Value.int .i64) hq)) ?_
          refine Wk.p (ld (v := .bool false) one_bool (Rd.row (i := 1) rfl hbv)) ?_
          refine Wk.p mvb ?_
          refine Wk.gp rfl mvs ?_
          refine Wk.gp rfl mvi ?_
          refine Wk.gp rfl (ixn (ix := b) sl_L_bool (Som.row (i := 1) rfl (by omega))) ?_
          refine Wk.gp rfl (ld (v := .bool (T b)) one_bool (Rd.row (i := 1) rfl hbv2)) ?_
          refine Wk.p (pkFb rfl) ?_
          refine Wk.nil ?_
          refine Ol.p (ixn (ix := q) sl_L_bool (Som.row (i := 1) rfl (by omega)) (hy := congrArg (Value.int .i64) hq)) ?_
          refine Ol.s (str (i := 1) (k := q * 1) (v := .bool (T b)) sz_bool rfl rfl rfl (by rw [boolsL_len]; omega) rfl) ?_
          refine Ol.nil ?_
          refine Cd.region ?_
          refine Ol.p mvi ?_
          refine Ol.p addi ?_
          refine Ol.p asi ?_
          refine Ol.nil ?_
          refine ⟨to.length - (j + 1), by omega, j + 1, rfl, by omega, hto4, ⟨rfl, rfl, rfl, rfl, rfl, rfl, trivial⟩, ?_⟩
          rw [hup, ← boolsL_put, q12, Bool.false_or, Nat.mul_one]; rfl
      have hge3 := ge_of h3
      have hje : j = to.length := by omega
      rw [List.take_of_length_le hge3] at hto3
      rw [hje, hto, ← edgesTo_next hx]
      refine Cd.exit (id := 4) ?_
      refine Cd.keep (.sub (.cons _ (List.Sublist.refl _))) ?_
      refine Cd.region ?_
      refine Ol.p mvi ?_
      refine Ol.p addi ?_
      refine Ol.p asi ?_
      refine Ol.nil ?_
      refine ⟨f.blocks.length - (b + 1), by omega, b + 1, rfl, by omega, ?_, ⟨rfl, rfl, rfl, rfl, trivial⟩, rfl⟩
      rw [take_snoc_ ht, List.all_append, hall, Bool.true_and]
      show ((toL x.term).all _ && true) = true
      rw [Bool.and_true, ← hto]
      exact hto3
    have hge2 := ge_of h2
    have hbe : b = f.blocks.length := by omega
    have hok : okEs f.terms = true := by
      unfold okEs
      rw [hbe, ← htl, List.take_length] at hall
      exact hall
    have hpe : passM (fun _ => true) f.terms (edgesTo f.terms b).length S = iterF (passA (fun _ => true) f.terms) (r + 1) oneB := by
      rw [hbe, ← htl]
      show passA (fun _ => true) f.terms S = passA (fun _ => true) f.terms (iterF (passA (fun _ => true) f.terms) r oneB)
      rw [hS]
    rw [hpe]
    refine Cd.exit (id := 2) ?_
    refine Cd.region ?_
    refine Ol.p mvi ?_
    refine Ol.p addi ?_
    refine Ol.p asi ?_
    refine Ol.nil ?_
    exact ⟨f.blocks.length - (r + 1), by omega, r + 1, rfl, by omega, .inr hok, ⟨rfl, rfl, rfl, trivial⟩, rfl⟩
  have hge := ge_of h
  have hre : r = f.blocks.length := by omega
  have hok : okEs f.terms = true := hrok.resolve_left (by omega)
  rw [hS, hre]
  refine Cd.exit (id := 0) ?_
  refine Cd.seq ?_
  refine Cd.region ?_
  refine Ol.p mvs ?_
  refine Ol.p ass ?_
  refine Ol.p asb ?_
  refine Ol.nil ?_
  exact Cd.ret ⟨.tuple #[.slice (some ⟨gs, 0, none⟩) f.blocks.length f.blocks.length, .bool true], ret2 rfl rfl rfl, _, .sub (.cons_cons _ (.cons _ .slnil)), .inr ⟨hok, some ⟨gs, 0, none⟩, f.blocks.length, rfl, rfl⟩⟩
end
end Go.Proofs.YtcojedoejpcolaaGreat

/- The document's answer of layer 03: whether a variable may lack a value, walked. -/
namespace Go.Proofs.YtcojedoejpcolaaGreat
set_option linter.unusedVariables false
set_option linter.unusedSimpArgs false
open Go Go.RowKit
set_option maxRecDepth 100000

theorem boolsL_at {n i : Nat} {S : Nat → Bool} (h : i < n) : (boolsL n S)[i * 1]? = some (.bool (S i)) := by rw [Nat.mul_one]; exact boolsL_get h
theorem ints_at1 {l : List Int} {i : Nat} {n : Int} (h : l[i]? = some n) : (ints l)[i * 1]? = some (.int .i64 n) := by simp [ints, h]
theorem exposed_drop {l : List RIns} {j : Nat} {i : RIns} {t : Tm} {v : Int} (h : l[j]? = some i) : exposed (l.drop j) t v = ((readsL i).contains v || (!decide (defI i = v) && exposed (l.drop (j + 1)) t v)) := by
  obtain ⟨hl, he⟩ := List.getElem?_eq_some_iff.1 h
  rw [List.drop_eq_getElem_cons hl, he]
  rfl
theorem needs_one (t : Tm) : needsL t = [] ∨ needsL t = [t.a] := by
  unfold needsL
  cases isTerm t && !decide (t.a = 0)
  · exact .inl rfl
  · exact .inr rfl
section
set_option maxHeartbeats 8000000 in
theorem ref03_lacks_ct {w : World} {f : RFun} {v : Int} (hf : FunAt w w.heap.size f) (hfit : Fit f) (hc : closed f.terms = true) (hp : ∀ p ∈ f.params, 1 ≤ p) (hv : 1 ≤ v) (hw8 : ∀ x ∈ f.blocks, ∀ i ∈ x.ins, (readsL i).length ≤ 10) : Ct Tryz.prog 89 #[f.val, .int .i64 v] w (Is (.bool (lacksB f v))) := by
  have htl : f.terms.length = f.blocks.length := by simp [RFun.terms]
  have h0 : 0 < f.blocks.length := by have := (closed_len hc).1; omega
  have h200 : f.blocks.length ≤ 200 := by have := (closed_len hc).2.1; omega
  have hpl := hfit.plen
  obtain ⟨F, hF⟩ : ∃ F, F = passA (bareP f v) f.terms := ⟨_, rfl⟩
  have hyes : ∀ {m r b : Nat} {x : RBlk}, f.blocks[b]? = some x → exposed x.ins x.term v = true → passM (bareP f v) f.terms m (iterF F r (openB f v)) b = true → lacksB f v = true := fun {m r b x} hx he hs => by
    rw [lacksB_iff]
    exact ⟨b, x, hx, he, open_sound hc hv hp m r b (hF ▸ hs)⟩
  refine Ct.mk Tryz.func89 rfl rfl ?_
  refine Cd.seq ?_
  refine Cd.region ?_
  refine Ol.x bxg ?_
  rintro _ _ ⟨g2, rfl, rfl⟩
  refine Ol.p asb ?_
  refine Ol.nil ?_
  refine Cd.seq ?_
  refine Cd.region ?_
  refine Ol.p (fdl fd_api_Func_1) ?_
  refine Ol.p (ld (v := .slice f.bA f.blocks.length f.bC) one_L_api_Block (Rd.blk (i := 0) rfl rfl)) ?_
  refine Ol.p (lens sl_L_api_Block) ?_
  refine Ol.x (mks (n := f.blocks.length) (c := f.blocks.length) sl_L_bool zr_bool) ?_
  rintro _ _ ⟨gs, rfl, rfl⟩
  refine Ol.p ass ?_
  refine Ol.nil ?_
  rw [show (madeCells (Value.bool false).cells (f.blocks.length * 1)).toList.take (f.blocks.length * 1) = boolsL f.blocks.length fun _ => false from made_bools _]
  refine Cd.seq ?_
  refine Cd.region ?_
  refine Ol.p mvs ?_
  refine Ol.p (ixn1 (ix := 0) sl_L_bool (Som.row (i := 0) rfl (by omega))) ?_
  refine Ol.s (str (i := 0) (k := 0) (v := .bool true) sz_bool rfl rfl rfl (by rw [boolsL_len]; exact h0) rfl) ?_
  refine Ol.nil ?_
  rw [show (boolsL f.blocks.length fun _ => false).set 0 (.bool true) = boolsL f.blocks.length fun i => decide (i = 0) && !(f.params.take 0).contains v from by rw [boolsL_put]; exact boolsL_same fun i _ => by by_cases h : i = 0 <;> simp [h]]
  refine Cd.mid (fun σ' L' => Has σ' [(1, .int .i64 v), (2, .pointer (some ⟨g2, 0, none⟩)), (5, .slice (some ⟨gs, 0, none⟩) f.blocks.length f.blocks.length)] ∧ [row (.slice (some ⟨gs, 0, none⟩) f.blocks.length f.blocks.length) 4 1 f.blocks.length (boolsL f.blocks.length (openB f v)), blk g2 (.cells f.cells.toArray 37)] = L') ?_ ?_
  · refine Cd.seq ?_
    refine Cd.region ?_
    refine Ol.p asi ?_
    refine Ol.nil ?_
    refine Cd.block ?_   -- 0
    refine Cd.loop (fun m σ L => ∃ k, m = f.params.length - k ∧ k ≤ f.params.length ∧ Has σ [(1, .int .i64 v), (2, .pointer (some ⟨g2, 0, none⟩)), (5, .slice (some ⟨gs, 0, none⟩) f.blocks.length f.blocks.length), (6, .int .i64 k)] ∧ [row (.slice (some ⟨gs, 0, none⟩) f.blocks.length f.blocks.length) 4 1 f.blocks.length (boolsL f.blocks.length fun i => decide (i = 0) && !(f.params.take k).contains v), blk g2 (.cells f.cells.toArray 37)] = L) (n := f.params.length) ⟨0, rfl, Nat.zero_le _, ⟨rfl, rfl, rfl, rfl, trivial⟩, rfl⟩ ?_
    rintro _ σ L ⟨k, rfl, hk, hs, rfl⟩
    refine Cd.has hs ?_
    clear hs
    refine Cd.seq ?_
    refine Cd.seq ?_
    refine Cd.region ?_
    refine Ol.p mvi ?_
    refine Ol.p (fdl fd_api_Func_0) ?_
    refine Ol.p (ld (v := .slice f.pA f.params.length f.pC) one_L_int (Rd.blk (i := 1) rfl rfl)) ?_
    refine Ol.p (lens sl_L_int) ?_
    refine Ol.p lsi ?_
    refine Ol.nil ?_
    refine Cd.cond rfl (fun h => ?_) (fun h => ?_)   -- $27
    · have hlt := lt_of h
      obtain ⟨n, hn⟩ : ∃ n, f.params[k]? = some n := ⟨_, List.getElem?_eq_getElem hlt⟩
      have hcon : (f.params.take (k + 1)).contains v = ((f.params.take k).contains v || decide (n = v)) := by
        rw [take_snoc_ hn, Bool.eq_iff_iff, List.contains_iff_mem, List.mem_append, List.mem_singleton, Bool.or_eq_true, List.contains_iff_mem, decide_eq_true_iff]
        exact or_congr Iff.rfl ⟨fun h => h.symm, fun h => h.symm⟩
      refine Cd.skip ?_
      refine Cd.mid (fun σ' L' => Has σ' [(1, .int .i64 v), (2, .pointer (some ⟨g2, 0, none⟩)), (5, .slice (some ⟨gs, 0, none⟩) f.blocks.length f.blocks.length), (6, .int .i64 k)] ∧ [row (.slice (some ⟨gs, 0, none⟩) f.blocks.length f.blocks.length) 4 1 f.blocks.length (boolsL f.blocks.length fun i => decide (i = 0) && !(f.params.take (k + 1)).contains v), blk g2 (.cells f.cells.toArray 37)] = L') ?_ ?_
      · refine Cd.block ?_   -- 1
        refine Cd.seq ?_
        refine Cd.region ?_
        refine Ol.p (fdl fd_api_Func_0) ?_
        refine Ol.p (ld (v := .slice f.pA f.params.length f.pC) one_L_int (Rd.blk (i := 1) rfl rfl)) ?_
        refine Ol.p mvi ?_
        refine Ol.p (ixn (ix := k) sl_L_int (Som.slc hf.params (by omega))) ?_
        refine Ol.p (ld (v := .int .i64 n) one_int (Rd.slc hf.params (ints_at1 hn))) ?_
        refine Ol.p mvi ?_
        refine Ol.p eqi ?_
        refine Ol.nil ?_
        refine Cd.cond rfl (fun h2 => ?_) (fun h2 => ?_)   -- $36
        · skip
          refine Cd.region ?_
          refine Ol.p mvs ?_
          refine Ol.p (ixn1 (ix := 0) sl_L_bool (Som.row (i := 0) rfl (by omega))) ?_
          refine Ol.s (str (i := 0) (k := 0) (v := .bool false) sz_bool rfl rfl rfl (by rw [boolsL_len]; exact h0) rfl) ?_
          refine Ol.nil ?_
          refine ⟨⟨rfl, rfl, rfl, rfl, trivial⟩, ?_⟩
          rw [show (boolsL f.blocks.length fun i => decide (i = 0) && !(f.params.take (k + 1)).contains v) = (boolsL f.blocks.length fun i => decide (i = 0) && !(f.params.take k).contains v).set 0 (.bool false) from by
            rw [boolsL_put]
            exact boolsL_same fun i _ => by
              have h2 : decide (n = v) = true := h2
              by_cases h : i = 0 <;> simp only [hcon, h2, h, Bool.or_true, Bool.not_true, Bool.and_false, decide_false, Bool.false_and, if_true, if_false]]
          rfl
        refine Cd.skip ?_
        refine ⟨⟨rfl, rfl, rfl, rfl, trivial⟩, ?_⟩
        have h2 : decide (n = v) = false := h2
        simp only [hcon, h2, Bool.or_false]
      rintro σ' _ ⟨hs', rfl⟩
      refine Cd.has hs' ?_
      clear hs'
      refine Cd.region ?_
      refine Ol.p mvi ?_
      refine Ol.p addi ?_
      refine Ol.p asi ?_
      refine Ol.nil ?_
      exact ⟨f.params.length - (k + 1), by omega, k + 1, rfl, by omega, ⟨rfl, rfl, rfl, rfl, trivial⟩, rfl⟩
    have hge := ge_of h
    rw [List.take_of_length_le hge]
    refine Cd.exit (id := 0) ?_
    exact ⟨⟨rfl, rfl, rfl, trivial⟩, rfl⟩
  rintro σ' _ ⟨hs', rfl⟩
  refine Cd.has hs' ?_
  clear hs'
  refine Cd.seq ?_
  refine Cd.seq ?_
  refine Cd.region ?_
  refine Ol.p asi ?_
  refine Ol.nil ?_
  refine Cd.block ?_   -- 2
  refine Cd.loop (fun m σ L => ∃ r, m = f.blocks.length - r ∧ r ≤ f.blocks.length ∧ (1 ≤ r → ∀ b x, f.blocks[b]? = some x → iterF F (r - 1) (openB f v) b = true → exposed x.ins x.term v = false) ∧ Has σ [(1, .int .i64 v), (2, .pointer (some ⟨g2, 0, none⟩)), (5, .slice (some ⟨gs, 0, none⟩) f.blocks.length f.blocks.length), (7, .int .i64 r)] ∧ [row (.slice (some ⟨gs, 0, none⟩) f.blocks.length f.blocks.length) 4 1 f.blocks.length (boolsL f.blocks.length (iterF F r (openB f v))), blk g2 (.cells f.cells.toArray 37)] = L) (n := f.blocks.length) ⟨0, rfl, Nat.zero_le _, (fun h => by omega), ⟨rfl, rfl, rfl, rfl, trivial⟩, rfl⟩ ?_
  rintro _ σ L ⟨r, rfl, hr, hrec, hs, rfl⟩
  refine Cd.has hs ?_
  clear hs
  obtain ⟨S, hS⟩ : ∃ S, S = iterF F r (openB f v) := ⟨_, rfl⟩
  rw [← hS]
  refine Cd.seq ?_
  refine Cd.seq ?_
  refine Cd.region ?_
  refine Ol.p mvi ?_
  refine Ol.p (fdl fd_api_Func_1) ?_
  refine Ol.p (ld (v := .slice f.bA f.blocks.length f.bC) one_L_api_Block (Rd.blk (i := 1) rfl rfl)) ?_
  refine Ol.p (lens sl_L_api_Block) ?_
  refine Ol.p lsi ?_
  refine Ol.nil ?_
  refine Cd.cond rfl (fun h => ?_) (fun h => ?_)   -- $43
  · have hlt := lt_of h
    refine Cd.skip ?_
    refine Cd.seq ?_
    refine Cd.block ?_   -- 3
    refine Cd.seq ?_
    refine Cd.region ?_
    refine Ol.p asi ?_
    refine Ol.nil ?_
    refine Cd.block ?_   -- 4
    refine Cd.loop (fun m σ L => ∃ b, m = f.blocks.length - b ∧ b ≤ f.blocks.length ∧ (∀ b' x, b' < b → f.blocks[b']? = some x → S b' = true → exposed x.ins x.term v = false) ∧ Has σ [(1, .int .i64 v), (2, .pointer (some ⟨g2, 0, none⟩)), (5, .slice (some ⟨gs, 0, none⟩) f.blocks.length f.blocks.length), (7, .int .i64 r), (8, .int .i64 b)] ∧ [row (.slice (some ⟨gs, 0, none⟩) f.blocks.length f.blocks.length) 4 1 f.blocks.length (boolsL f.blocks.length (passM (bareP f v) f.terms (edgesTo f.terms b).length S)), blk g2 (.cells f.cells.toArray 37)] = L) (n := f.blocks.length) ⟨0, rfl, Nat.zero_le _, (fun _ _ h => by omega), ⟨rfl, rfl, rfl, rfl, rfl, trivial⟩, rfl⟩ ?_
    rintro _ σ L ⟨b, rfl, hb, hbs, hs, rfl⟩
    refine Cd.has hs ?_
    clear hs
    refine Cd.seq ?_
    refine Cd.seq ?_
    refine Cd.region ?_
    refine Ol.p mvi ?_
    refine Ol.p (fdl fd_api_Func_1) ?_
    refine Ol.p (ld (v := .slice f.bA f.blocks.length f.bC) one_L_api_Block (Rd.blk (i := 1) rfl rfl)) ?_
    refine Ol.p (lens sl_L_api_Block) ?_
    refine Ol.p lsi ?_
    refine Ol.nil ?_
    refine Cd.cond rfl (fun h2 => ?_) (fun h2 => ?_)   -- $50
    · have hlt2 := lt_of h2
      obtain ⟨x, hx⟩ : ∃ x, f.blocks[b]? = some x := ⟨_, List.getElem?_eq_getElem hlt2⟩
      have hxm := List.mem_of_getElem? hx
      have hxl := hfit.ilen x hxm
      have hlx : f.terms[b]? = some x.term := by unfold RFun.terms; rw [List.getElem?_map, hx]; rfl
      obtain ⟨T, hT⟩ : ∃ T, T = passM (bareP f v) f.terms (edgesTo f.terms b).length S := ⟨_, rfl⟩
      have hyesT : exposed x.ins x.term v = true → T b = true → lacksB f v = true := fun he hTb => hyes hx he (by rw [← hS, ← hT]; exact hTb)
      rw [← hT]
      refine Cd.skip ?_
      refine Cd.seq ?_
      refine Cd.block ?_   -- 5
      refine Cd.seq ?_
      refine Cd.region ?_
      refine Ol.p mvs ?_
      refine Ol.p mvi ?_
      refine Ol.p (ixn (ix := b) sl_L_bool (Som.row (i := 0) rfl (by omega))) ?_
      refine Ol.p (ld (v := .bool (T b)) one_bool (Rd.row (i := 0) rfl (boolsL_at hlt2))) ?_
      refine Ol.p asb ?_
      refine Ol.nil ?_
      refine Cd.mid (fun σ' L' => (T b = true → exposed x.ins x.term v = ((T b && bareP f v b) && (needsL x.term).contains v)) ∧ Has σ' [(1, .int .i64 v), (2, .pointer (some ⟨g2, 0, none⟩)), (5, .slice (some ⟨gs, 0, none⟩) f.blocks.length f.blocks.length), (7, .int .i64 r), (8, .int .i64 b), (9, .bool (T b && bareP f v b))] ∧ [row (.slice (some ⟨gs, 0, none⟩) f.blocks.length f.blocks.length) 4 1 f.blocks.length (boolsL f.blocks.length T), blk g2 (.cells f.cells.toArray 37)] = L') ?_ ?_
      · refine Cd.seq ?_
        refine Cd.region ?_
        refine Ol.p asi ?_
        refine Ol.nil ?_
        refine Cd.block ?_   -- 6
        refine Cd.loop (fun m σ L => ∃ j bj, m = x.ins.length - j ∧ j ≤ x.ins.length ∧ bj = (T b && (x.ins.take j).all fun i => !decide (defI i = v)) ∧ (T b = true → exposed x.ins x.term v = (bj && exposed (x.ins.drop j) x.term v)) ∧ Has σ [(1, .int .i64 v), (2, .pointer (some ⟨g2, 0, none⟩)), (5, .slice (some ⟨gs, 0, none⟩) f.blocks.length f.blocks.length), (7, .int .i64 r), (8, .int .i64 b), (9, .bool bj), (10, .int .i64 j)] ∧ [row (.slice (some ⟨gs, 0, none⟩) f.blocks.length f.blocks.length) 4 1 f.blocks.length (boolsL f.blocks.length T), blk g2 (.cells f.cells.toArray 37)] = L) (n := x.ins.length) ⟨0, T b, rfl, Nat.zero_le _, by simp, (fun h => by rw [h]; simp), ⟨rfl, rfl, rfl, rfl, rfl, rfl, rfl, trivial⟩, rfl⟩ ?_
        rintro _ σ L ⟨j, bj, rfl, hj, hbj, hexp, hs, rfl⟩
        refine Cd.has hs ?_
        clear hs
        refine Cd.seq ?_
        refine Cd.seq ?_
        refine Cd.region ?_
        refine Ol.p mvi ?_
        refine Ol.p (fdl fd_api_Func_1) ?_
        refine Ol.p (ld (v := .slice f.bA f.blocks.length f.bC) one_L_api_Block (Rd.blk (i := 1) rfl rfl)) ?_
        refine Ol.p mvi ?_
        refine Ol.p (ixn (ix := b) sl_L_api_Block (Som.slc hf.blocks (by omega))) ?_
        refine Ol.p (fdp fd_api_Block_0) ?_
        refine Ol.p (ld (v := .slice x.iA x.ins.length x.iC) one_L_api_Ins (Rd.slc hf.blocks (ins_slc hx))) ?_
        refine Ol.p (lens sl_L_api_Ins) ?_
        refine Ol.p lsi ?_
        refine Ol.nil ?_
        refine Cd.cond rfl (fun h3 => ?_) (fun h3 => ?_)   -- $65
        · have hlt3 := lt_of h3
          obtain ⟨i, hi⟩ : ∃ i, x.ins[j]? = some i := ⟨_, List.getElem?_eq_getElem hlt3⟩
          have him := List.mem_of_getElem? hi
          have hial := hfit.alen x hxm i him
          have hil := hw8 x hxm i him
          obtain ⟨rl, hrl⟩ : ∃ rl, rl = readsL i := ⟨_, rfl⟩
          have hdr := exposed_drop (t := x.term) (v := v) hi
          rw [← hrl] at hil hdr
          refine Cd.skip ?_
          refine Cd.seq ?_
          refine Cd.block ?_   -- 7
          refine Cd.seq ?_
          refine Cd.region ?_
          refine Ol.p (fdl fd_api_Func_1) ?_
          refine Ol.p (ld (v := .slice f.bA f.blocks.length f.bC) one_L_api_Block (Rd.blk (i := 1) rfl rfl)) ?_
          refine Ol.p mvi ?_
          refine Ol.p (ixn (ix := b) sl_L_api_Block (Som.slc hf.blocks (by omega))) ?_
          refine Ol.p (fdp fd_api_Block_0) ?_
          refine Ol.p (ld (v := .slice x.iA x.ins.length x.iC) one_L_api_Ins (Rd.slc hf.blocks (ins_slc hx))) ?_
          refine Ol.p mvi ?_
          refine Ol.p (ixn (ix := j) sl_L_api_Ins (Som.slc (hf.ins x hxm) (by omega))) ?_
          refine Ol.p (lds (es := i.cells) ag_api_Ins (hf.ins x hxm) i.len (fun q u hu => ins_cell hi hu)) ?_
          refine Ol.x (alc zr_api_Ins) ?_
          rintro _ _ ⟨g11, rfl, rfl⟩
          refine Ol.s (stw (vs := i.cells.toArray) sz_api_Ins rfl i.one (i := 0) rfl rfl) ?_
          refine Ol.nil ?_
          refine Cd.seq ?_
          refine Cd.region ?_
          refine Ol.p (ldw (cs := i.cells.toArray) ag_api_Ins (i := 0) rfl rfl) ?_
          refine Ol.x (sp_call (vs := [i.val]) (R := NewL 3 1 rl.length (ints rl)) en_ref03_Reads (fun M w' hh => hrl ▸ ref03_Reads_ct ((hf.args x hxm i him).now hh) (by omega))) ?_
          rintro _ _ ⟨_, rfl, A78, c78, rfl, rfl⟩
          refine Ol.p ass ?_
          refine Ol.nil ?_
          refine Cd.mid (fun σ' L' => (bj = true → rl.contains v = false) ∧ Has σ' [(1, .int .i64 v), (2, .pointer (some ⟨g2, 0, none⟩)), (5, .slice (some ⟨gs, 0, none⟩) f.blocks.length f.blocks.length), (7, .int .i64 r), (8, .int .i64 b), (9, .bool bj), (10, .int .i64 j), (11, .pointer (some ⟨g11, 0, none⟩))] ∧ [blk g11 (.cells i.cells.toArray 25), row (.slice (some ⟨gs, 0, none⟩) f.blocks.length f.blocks.length) 4 1 f.blocks.length (boolsL f.blocks.length T), blk g2 (.cells f.cells.toArray 37)] = L') ?_ ?_
          · refine Cd.seq ?_
            refine Cd.region ?_
            refine Ol.p asi ?_
            refine Ol.nil ?_
            refine Cd.block ?_   -- 8
            refine Cd.loop (fun m σ L => ∃ q, m = rl.length - q ∧ q ≤ rl.length ∧ (bj = true → (rl.take q).contains v = false) ∧ Has σ [(1, .int .i64 v), (2, .pointer (some ⟨g2, 0, none⟩)), (5, .slice (some ⟨gs, 0, none⟩) f.blocks.length f.blocks.length), (7, .int .i64 r), (8, .int .i64 b), (9, .bool bj), (10, .int .i64 j), (11, .pointer (some ⟨g11, 0, none⟩)), (12, .slice A78 rl.length c78), (13, .int .i64 q)] ∧ [row (.slice A78 rl.length c78) 3 1 rl.length (ints rl), blk g11 (.cells i.cells.toArray 25), row (.slice (some ⟨gs, 0, none⟩) f.blocks.length f.blocks.length) 4 1 f.blocks.length (boolsL f.blocks.length T), blk g2 (.cells f.cells.toArray 37)] = L) (n := rl.length) ⟨0, rfl, Nat.zero_le _, (fun _ => rfl), ⟨rfl, rfl, rfl, rfl, rfl, rfl, rfl, rfl, rfl, rfl, trivial⟩, rfl⟩ ?_
            rintro _ σ L ⟨q, rfl, hq, hqn, hs, rfl⟩
            refine Cd.has hs ?_
            clear hs
            refine Cd.seq ?_
            refine Cd.seq ?_
            refine Cd.region ?_
            refine Ol.p mvi ?_
            refine Ol.p mvs ?_
            refine Ol.p (lens sl_L_int) ?_
            refine Ol.p lsi ?_
            refine Ol.nil ?_
            refine Cd.cond rfl (fun h4 => ?_) (fun h4 => ?_)   -- $82
            · have hlt4 := lt_of h4
              obtain ⟨n, hn⟩ : ∃ n, rl[q]? = some n := ⟨_, List.getElem?_eq_getElem hlt4⟩
              have hcon : (rl.take (q + 1)).contains v = ((rl.take q).contains v || decide (n = v)) := by
                rw [take_snoc_ hn, Bool.eq_iff_iff, List.contains_iff_mem, List.mem_append, List.mem_singleton, Bool.or_eq_true, List.contains_iff_mem, decide_eq_true_iff]
                exact or_congr Iff.rfl ⟨fun h => h.symm, fun h => h.symm⟩
              refine Cd.skip ?_
              refine Cd.seq ?_
              refine Cd.block ?_   -- 9
              refine Cd.mid (fun σ' L' => Has σ' [(1, .int .i64 v), (2, .pointer (some ⟨g2, 0, none⟩)), (5, .slice (some ⟨gs, 0, none⟩) f.blocks.length f.blocks.length), (7, .int .i64 r), (8, .int .i64 b), (9, .bool bj), (10, .int .i64 j), (11, .pointer (some ⟨g11, 0, none⟩)), (12, .slice A78 rl.length c78), (13, .int .i64 q), (93, .bool (decide (n = v) && bj))] ∧ [row (.slice A78 rl.length c78) 3 1 rl.length (ints rl), blk g11 (.cells i.cells.toArray 25), row (.slice (some ⟨gs, 0, none⟩) f.blocks.length f.blocks.length) 4 1 f.blocks.length (boolsL f.blocks.length T), blk g2 (.cells f.cells.toArray 37)] = L') ?_ ?_
              · cases q0 : decide (n = v) with
                | true =>
                  refine Cd.region ?_
                  refine Ol.p mvs ?_
                  refine Ol.p mvi ?_
                  refine Ol.p (ixn (ix := q) sl_L_int (Som.row (i := 0) rfl (by omega))) ?_
                  refine Ol.p (ld (v := .int .i64 n) one_int (Rd.row (i := 0) rfl (ints_at1 hn))) ?_
                  refine Ol.p mvi ?_
                  refine Ol.p eqi ?_
                  refine Ol.p mvb ?_
                  refine Ol.gp q0 mvb ?_
                  refine Ol.p (pkTb q0) ?_
                  refine Ol.nil ?_
                  exact ⟨⟨rfl, rfl, rfl, rfl, rfl, rfl, rfl, rfl, rfl, rfl, rfl, trivial⟩, rfl⟩
                | false =>
                  refine Cd.region ?_
                  refine Ol.p mvs ?_
                  refine Ol.p mvi ?_
                  refine Ol.p (ixn (ix := q) sl_L_int (Som.row (i := 0) rfl (by omega))) ?_
                  refine Ol.p (ld (v := .int .i64 n) one_int (Rd.row (i := 0) rfl (ints_at1 hn))) ?_
                  refine Ol.p mvi ?_
                  refine Ol.p eqi ?_
                  refine Ol.p mvb ?_
                  refine Ol.gn q0 ?_
                  refine Ol.p (pkFb q0) ?_
                  refine Ol.nil ?_
                  exact ⟨⟨rfl, rfl, rfl, rfl, rfl, rfl, rfl, rfl, rfl, rfl, rfl, trivial⟩, rfl⟩
              rintro σ' _ ⟨hs', rfl⟩
              refine Cd.has hs' ?_
              clear hs'
              refine Cd.cond rfl (fun h5 => ?_) (fun h5 => ?_)   -- $93
              · rw [Bool.and_eq_true, decide_eq_true_iff] at h5
                obtain ⟨hnv, hbt⟩ := h5
                have hTb : T b = true := by
                  rw [hbt] at hbj
                  exact (Bool.and_eq_true_iff.1 hbj.symm).1
                have hex : exposed x.ins x.term v = true := by
                  rw [hexp hTb, hbt, hdr, List.contains_iff_mem.2 (hnv ▸ List.mem_of_getElem? hn)]
                  rfl
                refine Cd.seq ?_
                refine Cd.region ?_
                refine Ol.p asb ?_
                refine Ol.nil ?_
                exact Cd.ret ⟨.bool true, ret1 rfl rfl, [], Keep.nil, by rw [hyesT hex hTb], rfl⟩
              refine Cd.skip ?_
              refine Cd.region ?_
              refine Ol.p mvi ?_
              refine Ol.p addi ?_
              refine Ol.p asi ?_
              refine Ol.nil ?_
              refine ⟨rl.length - (q + 1), by omega, q + 1, rfl, by omega, fun hbt => ?_, ⟨rfl, rfl, rfl, rfl, rfl, rfl, rfl, rfl, rfl, rfl, trivial⟩, rfl⟩
              rw [hbt, Bool.and_true] at h5
              rw [hcon, hqn hbt, h5]
              rfl
            have hge4 := ge_of h4
            rw [List.take_of_length_le hge4] at hqn
            refine Cd.keep (.sub (.cons _ (List.Sublist.refl _))) ?_
            refine Cd.exit (id := 8) ?_
            exact ⟨hqn, ⟨rfl, rfl, rfl, rfl, rfl, rfl, rfl, rfl, trivial⟩, rfl⟩
          rintro σ' _ ⟨hqn, hs', rfl⟩
          refine Cd.has hs' ?_
          clear hs'
          have hall : ((x.ins.take (j + 1)).all fun i => !decide (defI i = v)) = (((x.ins.take j).all fun i => !decide (defI i = v)) && !decide (defI i = v)) := by
            rw [take_snoc_ hi, List.all_append]
            simp
          have hnew : T b = true → exposed x.ins x.term v = ((bj && !decide (defI i = v)) && exposed (x.ins.drop (j + 1)) x.term v) := fun hTb => by
            rw [hexp hTb, hdr]
            cases hbt : bj with
            | false => rfl
            | true => rw [hqn hbt]; simp
          cases q1 : bj with
          | true =>
            rw [q1] at hnew hbj
            refine Cd.region ?_
            refine Ol.p mvb ?_
            refine Ol.p mvb ?_
            refine Ol.gp rfl (ldw (cs := i.cells.toArray) ag_api_Ins (i := 0) rfl rfl) ?_
            refine Ol.gs rfl (cl (v := .int .i64 (defI i)) en_ref03_Defines (fun M w' hh => ref03_Defines_ct ((hf.args x hxm i him).now hh) (by omega))) ?_
            refine Ol.gp rfl mvi ?_
            refine Ol.gp rfl nei ?_
            refine Ol.p (pkTb rfl) ?_
            refine Ol.p asb ?_
            refine Ol.nil ?_
            refine Cd.region ?_
            refine Ol.p mvi ?_
            refine Ol.p addi ?_
            refine Ol.p asi ?_
            refine Ol.keep (.sub (.cons _ (List.Sublist.refl _))) ?_
            refine Ol.nil ?_
            refine ⟨x.ins.length - (j + 1), by omega, j + 1, !decide (defI i = v), rfl, by omega, ?_, (fun hTb => by rw [hnew hTb, Bool.true_and]), ⟨rfl, rfl, rfl, rfl, rfl, rfl, rfl, trivial⟩, rfl⟩
            rw [hall, ← Bool.and_assoc, ← hbj]
            simp
          | false =>
            rw [q1] at hnew hbj
            refine Cd.region ?_
            refine Ol.p mvb ?_
            refine Ol.p mvb ?_
            refine Ol.gn rfl ?_
            refine Ol.gn rfl ?_
            refine Ol.gn rfl ?_
            refine Ol.gn rfl ?_
            refine Ol.p (pkFb rfl) ?_
            refine Ol.p asb ?_
            refine Ol.nil ?_
            refine Cd.region ?_
            refine Ol.p mvi ?_
            refine Ol.p addi ?_
            refine Ol.p asi ?_
            refine Ol.keep (.sub (.cons _ (List.Sublist.refl _))) ?_
            refine Ol.nil ?_
            refine ⟨x.ins.length - (j + 1), by omega, j + 1, false, rfl, by omega, ?_, (fun hTb => by rw [hnew hTb]; rfl), ⟨rfl, rfl, rfl, rfl, rfl, rfl, rfl, trivial⟩, rfl⟩
            rw [hall, ← Bool.and_assoc, ← hbj]
            rfl
        have hge3 := ge_of h3
        have hbP : bareP f v b = x.ins.all fun i => !decide (defI i = v) := by unfold bareP; rw [hx]
        rw [List.take_of_length_le hge3, ← hbP] at hbj
        rw [List.drop_of_length_le hge3] at hexp
        refine Cd.exit (id := 6) ?_
        rw [hbj]
        refine ⟨fun hTb => ?_, ⟨rfl, rfl, rfl, rfl, rfl, rfl, trivial⟩, rfl⟩
        rw [hexp hTb, hbj]
        rfl
      rintro σ' _ ⟨hexp, hs', rfl⟩
      refine Cd.has hs' ?_
      clear hs'
      obtain ⟨bt, hbt⟩ : ∃ bt, bt = (T b && bareP f v b) := ⟨_, rfl⟩
      rw [← hbt] at hexp ⊢
      obtain ⟨nl, hnl⟩ : ∃ nl, nl = needsL x.term := ⟨_, rfl⟩
      obtain ⟨to, hto⟩ : ∃ to, to = toL x.term := ⟨_, rfl⟩
      have hto2 : to.length ≤ 2 := by rw [hto]; exact toL_len _
      rw [← hnl] at hexp
      refine Cd.seq ?_
      refine Cd.region ?_
      refine Ol.p (fdl fd_api_Func_1) ?_
      refine Ol.p (ld (v := .slice f.bA f.blocks.length f.bC) one_L_api_Block (Rd.blk (i := 1) rfl rfl)) ?_
      refine Ol.p mvi ?_
      refine Ol.p (ixn (ix := b) sl_L_api_Block (Som.slc hf.blocks (by omega))) ?_
      refine Ol.p (fdp fd_api_Block_1) ?_
      refine Ol.p (lds (es := x.term.cells) ag_api_Term hf.blocks rfl (tm_slc hx)) ?_
      refine Ol.x (sp_call (vs := [x.term.val]) (R := NewL 3 1 nl.length (ints nl)) en_ref03_Needs (fun M w' hh => hnl ▸ ref03_Needs_ct (t := x.term))) ?_
      rintro _ _ ⟨_, rfl, A107, c107, rfl, rfl⟩
      refine Ol.p ass ?_
      refine Ol.nil ?_
      refine Cd.seq ?_
      refine Cd.mid (fun σ' L' => Has σ' [(1, .int .i64 v), (2, .pointer (some ⟨g2, 0, none⟩)), (5, .slice (some ⟨gs, 0, none⟩) f.blocks.length f.blocks.length), (7, .int .i64 r), (8, .int .i64 b), (9, .bool bt), (120, .bool (nl.contains v && bt))] ∧ [row (.slice (some ⟨gs, 0, none⟩) f.blocks.length f.blocks.length) 4 1 f.blocks.length (boolsL f.blocks.length T), blk g2 (.cells f.cells.toArray 37)] = L') ?_ ?_
      · rcases hnl ▸ needs_one x.term with h6 | h6
        · subst h6
          refine Cd.region ?_
          refine Ol.p mvs ?_
          refine Ol.p (lens sl_L_int) ?_
          refine Ol.p gti ?_
          refine Ol.p mvb ?_
          refine Ol.gn rfl ?_
          refine Ol.gn rfl ?_
          refine Ol.gn rfl ?_
          refine Ol.gn rfl ?_
          refine Ol.gn rfl ?_
          refine Ol.p (pkFb rfl) ?_
          refine Ol.p mvb ?_
          refine Ol.gn rfl ?_
          refine Ol.p (pkFb rfl) ?_
          refine Ol.keep (.sub (.cons _ (List.Sublist.refl _))) ?_
          refine Ol.nil ?_
          exact ⟨⟨rfl, rfl, rfl, rfl, rfl, rfl, rfl, trivial⟩, rfl⟩
        · have h6c : nl.contains v = decide (x.term.a = v) := by
            rw [h6, Bool.eq_iff_iff, List.contains_iff_mem, List.mem_singleton, decide_eq_true_iff]
            exact ⟨fun h => h.symm, fun h => h.symm⟩
          rw [h6c]
          have h6l : nl.length = 1 := by rw [h6]; rfl
          have q3 : decide ((0 : Int) < (nl.length : Int)) = true := by rw [h6l]; rfl
          have h6i : (ints nl)[0 * 1]? = some (.int .i64 x.term.a) := by rw [h6]; rfl
          cases q10 : decide (x.term.a = v) with
          | true =>
            refine Cd.region ?_
            refine Ol.p mvs ?_
            refine Ol.p (lens sl_L_int) ?_
            refine Ol.p gti ?_
            refine Ol.p mvb ?_
            refine Ol.gp q3 mvs ?_
            refine Ol.gp q3 (ixn (ix := 0) sl_L_int (Som.row (i := 0) rfl (by omega))) ?_
            refine Ol.gp q3 (ld (v := .int .i64 x.term.a) one_int (Rd.row (i := 0) rfl h6i)) ?_
            refine Ol.gp q3 mvi ?_
            refine Ol.gp q3 eqi ?_
            refine Ol.p (pkTb q3) ?_
            refine Ol.p mvb ?_
            refine Ol.gp q10 mvb ?_
            refine Ol.p (pkTb q10) ?_
            refine Ol.keep (.sub (.cons _ (List.Sublist.refl _))) ?_
            refine Ol.nil ?_
            exact ⟨⟨rfl, rfl, rfl, rfl, rfl, rfl, rfl, trivial⟩, rfl⟩
          | false =>
            refine Cd.region ?_
            refine Ol.p mvs ?_
            refine Ol.p (lens sl_L_int) ?_
            refine Ol.p gti ?_
            refine Ol.p mvb ?_
            refine Ol.gp q3 mvs ?_
            refine Ol.gp q3 (ixn (ix := 0) sl_L_int (Som.row (i := 0) rfl (by omega))) ?_
            refine Ol.gp q3 (ld (v := .int .i64 x.term.a) one_int (Rd.row (i := 0) rfl h6i)) ?_
            refine Ol.gp q3 mvi ?_
            refine Ol.gp q3 eqi ?_
            refine Ol.p (pkTb q3) ?_
            refine Ol.p mvb ?_
            refine Ol.gn q10 ?_
            refine Ol.p (pkFb q10) ?_
            refine Ol.keep (.sub (.cons _ (List.Sublist.refl _))) ?_
            refine Ol.nil ?_
            exact ⟨⟨rfl, rfl, rfl, rfl, rfl, rfl, rfl, trivial⟩, rfl⟩
      rintro σ' _ ⟨hs', rfl⟩
      refine Cd.has hs' ?_
      clear hs'
      refine Cd.cond rfl (fun h7 => ?_) (fun h7 => ?_)   -- $120
      · rw [Bool.and_eq_true] at h7
        have hTb : T b = true := by
          rw [h7.2] at hbt
          exact (Bool.and_eq_true_iff.1 hbt.symm).1
        have hex : exposed x.ins x.term v = true := by rw [hexp hTb, h7.1, h7.2]; rfl
        refine Cd.seq ?_
        refine Cd.region ?_
        refine Ol.p asb ?_
        refine Ol.nil ?_
        exact Cd.ret ⟨.bool true, ret1 rfl rfl, [], Keep.nil, by rw [hyesT hex hTb], rfl⟩
      have hnone : T b = true → exposed x.ins x.term v = false := fun hTb => by rw [hexp hTb, Bool.and_comm]; exact h7
      refine Cd.skip ?_
      refine Cd.seq ?_
      refine Cd.region ?_
      refine Ol.p (fdl fd_api_Func_1) ?_
      refine Ol.p (ld (v := .slice f.bA f.blocks.length f.bC) one_L_api_Block (Rd.blk (i := 1) rfl rfl)) ?_
      refine Ol.p mvi ?_
      refine Ol.p (ixn (ix := b) sl_L_api_Block (Som.slc hf.blocks (by omega))) ?_
      refine Ol.p (fdp fd_api_Block_1) ?_
      refine Ol.p (lds (es := x.term.cells) ag_api_Term hf.blocks rfl (tm_slc hx)) ?_
      refine Ol.x (sp_call (vs := [x.term.val]) (R := NewL 3 1 to.length (ints to)) en_ref03_To (fun M w' hh => hto ▸ ref03_To_ct (t := x.term))) ?_
      rintro _ _ ⟨_, rfl, A127, c127, rfl, rfl⟩
      refine Ol.p ass ?_
      refine Ol.nil ?_
      refine Cd.seq ?_
      refine Cd.region ?_
      refine Ol.p asi ?_
      refine Ol.nil ?_
      refine Cd.block ?_   -- 10
      refine Cd.loop (fun m σ L => ∃ j U, m = to.length - j ∧ j ≤ to.length ∧ U = passM (bareP f v) f.terms ((edgesTo f.terms b).length + j) S ∧ U b = T b ∧ Has σ [(1, .int .i64 v), (2, .pointer (some ⟨g2, 0, none⟩)), (5, .slice (some ⟨gs, 0, none⟩) f.blocks.length f.blocks.length), (7, .int .i64 r), (8, .int .i64 b), (9, .bool bt), (15, .slice A127 to.length c127), (16, .int .i64 j)] ∧ [row (.slice A127 to.length c127) 3 1 to.length (ints to), row (.slice (some ⟨gs, 0, none⟩) f.blocks.length f.blocks.length) 4 1 f.blocks.length (boolsL f.blocks.length U), blk g2 (.cells f.cells.toArray 37)] = L) (n := to.length) ⟨0, T, rfl, Nat.zero_le _, by rw [hT]; rfl, rfl, ⟨rfl, rfl, rfl, rfl, rfl, rfl, rfl, rfl, trivial⟩, rfl⟩ ?_
      rintro _ σ L ⟨j, U, rfl, hj, hU, hUb, hs, rfl⟩
      refine Cd.has hs ?_
      clear hs
      refine Cd.seq ?_
      refine Cd.seq ?_
      refine Cd.region ?_
      refine Ol.p mvi ?_
      refine Ol.p mvs ?_
      refine Ol.p (lens sl_L_int) ?_
      refine Ol.p lsi ?_
      refine Ol.nil ?_
      refine Cd.cond rfl (fun h8 => ?_) (fun h8 => ?_)   -- $131
      · have hlt8 := lt_of h8
        obtain ⟨n, hn⟩ : ∃ n, to[j]? = some n := ⟨_, List.getElem?_eq_getElem hlt8⟩
        have hnv : (ints to)[j * 1]? = some (.int .i64 n) := ints_at1 hn
        have hed := toL_edge hx (hto ▸ hn)
        have hnr := (closed_len hc).2.2 _ (List.mem_of_getElem? hed)
        obtain ⟨q, hq⟩ : ∃ q : Nat, n = (q : Int) := ⟨n.toNat, by have := hnr.1; simp only at this; omega⟩
        have hql : q < f.blocks.length := by have := hnr.2; simp only at this; omega
        have hup : passM (bareP f v) f.terms ((edgesTo f.terms b).length + (j + 1)) S = fun i => if i = q then U q || bt else U i := by
          rw [← Nat.add_assoc, passM_succ hed, ← hU]
          funext i
          unfold upE orB
          show (if i = (n).toNat then U i || (U ((b : Int).toNat) && bareP f v ((b : Int).toNat)) else U i) = _
          rw [hq, Int.toNat_natCast, Int.toNat_natCast, hUb, ← hbt]
          by_cases h : i = q
          · rw [if_pos h, if_pos h, h]
          · rw [if_neg h, if_neg h]
        have hUb2 : passM (bareP f v) f.terms ((edgesTo f.terms b).length + (j + 1)) S b = T b := by
          rw [hup]
          show (if b = q then U q || bt else U b) = T b
          by_cases h : b = q
          · rw [if_pos h, ← h, hUb, hbt]
            cases T b <;> simp
          · rw [if_neg h, hUb]
        have hUq : (boolsL f.blocks.length U)[q * 1]? = some (.bool (U q)) := boolsL_at hql
        refine Cd.skip ?_
        refine Cd.seq ?_
        refine Cd.block ?_   -- 11
        cases q12 : U q with
        | true =>
          rw [q12] at hUq
          refine Cd.draw mixed 15 (fun _ => none) (fun _ => []) (by kernel_rfl) (fun _ _ h => by cases h) (fun u hu => ?_)
          refine Wk.p mvs ?_
          refine Wk.p mvs ?_
          refine Wk.p mvi ?_
          refine Wk.p (ixn (ix := j) sl_L_int (Som.row (i := 0) rfl (by omega))) ?_
          refine Wk.p (ld (v := .int .i64 n) one_int (Rd.row (i := 0) rfl hnv)) ?_
          refine Wk.p mvs ?_
          refine Wk.p mvs ?_
          refine Wk.p mvi ?_
          refine Wk.p (ixn (ix := j) sl_L_int (Som.row (i := 0) rfl (by omega))) ?_
          refine Wk.p (ld (v := .int .i64 n) one_int (Rd.row (i := 0) rfl hnv)) ?_
          refine Wk.p (ixn (ix := q) sl_L_bool (Som.row (i := 1) rfl (by omega)) (hy := congrArg (Value.int .i64) hq)) ?_
          refine Wk.p (ld (v := .bool true) one_bool (Rd.row (i := 1) rfl hUq)) ?_
          refine Wk.p mvb ?_
          refine Wk.gn rfl ?_
          refine Wk.p (pkTb rfl) ?_
          refine Wk.nil ?_
          refine Ol.p (ixn (ix := q) sl_L_bool (Som.row (i := 1) rfl (by omega)) (hy := congrArg (Value.int .i64) hq)) ?_
          refine Ol.s (str (i := 1) (k := q * 1) (v := .bool true) sz_bool rfl rfl rfl (by rw [boolsL_len]; omega) rfl) ?_
          refine Ol.nil ?_
          refine Cd.region ?_
          refine Ol.p mvi ?_
          refine Ol.p addi ?_
          refine Ol.p asi ?_
          refine Ol.nil ?_
          refine ⟨to.length - (j + 1), by omega, j + 1, _, rfl, by omega, rfl, hUb2, ⟨rfl, rfl, rfl, rfl, rfl, rfl, rfl, rfl, trivial⟩, ?_⟩
          rw [hup, ← boolsL_put, q12, Bool.true_or, Nat.mul_one]; rfl
        | false =>
          rw [q12] at hUq
          refine Cd.draw mixed 15 (fun _ => none) (fun _ => []) (by kernel_rfl) (fun _ _ h => by cases h) (fun u hu => ?_)
          refine Wk.p mvs ?_
          refine Wk.p mvs ?_
          refine Wk.p mvi ?_
          refine Wk.p (ixn (ix := j) sl_L_int (Som.row (i := 0) rfl (by omega))) ?_
          refine Wk.p (ld (v := .int .i64 n) one_int (Rd.row (i := 0) rfl hnv)) ?_
          refine Wk.p mvs ?_
          refine Wk.p mvs ?_
          refine Wk.p mvi ?_
          refine Wk.p (ixn (ix := j) sl_L_int (Som.row (i := 0) rfl (by omega))) ?_
          refine Wk.p (ld (v := .int .i64 n) one_int (Rd.row (i := 0) rfl hnv)) ?_
          refine Wk.p (ixn (ix := q) sl_L_bool (Som.row (i := 1) rfl (by omega)) (hy := congrArg (Value.int .i64) hq)) ?_
          refine Wk.p (ld (v := .bool false) one_bool (Rd.row (i := 1) rfl hUq)) ?_
          refine Wk.p mvb ?_
          refine Wk.gp rfl mvb ?_
          refine Wk.p (pkFb rfl) ?_
          refine Wk.nil ?_
          refine Ol.p (ixn (ix := q) sl_L_bool (Som.row (i := 1) rfl (by omega)) (hy := congrArg (Value.int .i64) hq)) ?_
          refine Ol.s (str (i := 1) (k := q * 1) (v := .bool bt) sz_bool rfl rfl rfl (by rw [boolsL_len]; omega) rfl) ?_
          refine Ol.nil ?_
          refine Cd.region ?_
          refine Ol.p mvi ?_
          refine Ol.p addi ?_
          refine Ol.p asi ?_
          refine Ol.nil ?_
          refine ⟨to.length - (j + 1), by omega, j + 1, _, rfl, by omega, rfl, hUb2, ⟨rfl, rfl, rfl, rfl, rfl, rfl, rfl, rfl, trivial⟩, ?_⟩
          rw [hup, ← boolsL_put, q12, Bool.false_or, Nat.mul_one]; rfl
      have hge8 := ge_of h8
      have hje : j = to.length := by omega
      rw [hU, hje, hto, ← edgesTo_next hx]
      refine Cd.exit (id := 10) ?_
      refine Cd.keep (.sub (.cons _ (List.Sublist.refl _))) ?_
      refine Cd.region ?_
      refine Ol.p mvi ?_
      refine Ol.p addi ?_
      refine Ol.p asi ?_
      refine Ol.nil ?_
      refine ⟨f.blocks.length - (b + 1), by omega, b + 1, rfl, by omega, ?_, ⟨rfl, rfl, rfl, rfl, rfl, trivial⟩, rfl⟩
      intro b' y hb' hy hSb
      rcases Nat.lt_or_ge b' b with h9 | h9
      · exact hbs b' y h9 hy hSb
      · have e9 : b' = b := by omega
        subst e9
        rw [hx] at hy
        rw [← Option.some.inj hy]
        exact hnone (by rw [hT]; exact passM_sub hSb _)
    have hge2 := ge_of h2
    have hbe : b = f.blocks.length := by omega
    have hpe : passM (bareP f v) f.terms (edgesTo f.terms b).length S = iterF F (r + 1) (openB f v) := by
      rw [hbe, ← htl]
      show passA (bareP f v) f.terms S = F (iterF F r (openB f v))
      rw [hS, hF]
    rw [hpe]
    refine Cd.exit (id := 4) ?_
    refine Cd.region ?_
    refine Ol.p mvi ?_
    refine Ol.p addi ?_
    refine Ol.p asi ?_
    refine Ol.nil ?_
    refine ⟨f.blocks.length - (r + 1), by omega, r + 1, rfl, by omega, fun _ b' y hy hSb => ?_, ⟨rfl, rfl, rfl, rfl, trivial⟩, rfl⟩
    refine hbs b' y (by have := (List.getElem?_eq_some_iff.1 hy).1; omega) hy ?_
    rw [hS]
    exact hSb
  have hge := ge_of h
  have hre : r = f.blocks.length := by omega
  have hno : lacksB f v = false := by
    cases hl : lacksB f v with
    | false => rfl
    | true =>
      obtain ⟨b, x, h1, h2, h3⟩ := lacksB_iff.1 hl
      have := hrec (by omega) b x h1 (by
        have := open_full hc hv hp h3
        rw [htl] at this
        rw [hF, hre]
        exact this)
      rw [this] at h2
      cases h2
  refine Cd.exit (id := 2) ?_
  refine Cd.seq ?_
  refine Cd.region ?_
  refine Ol.p asb ?_
  refine Ol.nil ?_
  exact Cd.ret ⟨.bool false, ret1 rfl rfl, [], Keep.nil, by rw [hno], rfl⟩
end
end Go.Proofs.YtcojedoejpcolaaGreat

/- Plain law: a function whose variables are renamed, one to one. -/
namespace Go.Proofs.YtcojedoejpcolaaGreat
set_option linter.unusedVariables false
open Go Go.RowKit

/-- A renaming: none stays, variables go to variables, one to one, all of them. -/
structure Rnm (r : Int → Int) (rN : Nat → Nat) : Prop where
  var : ∀ n, varB (r n) = varB n
  stay : ∀ n, varB n = false → r n = n
  inj : ∀ a b, r a = r b → a = b
  onto : ∀ n, ∃ m, r m = n
  nat : ∀ n : Nat, r (n : Int) = ((rN n : Nat) : Int)
section
variable {r : Int → Int} {rN : Nat → Nat}
theorem Rnm.zero (h : Rnm r rN) : r 0 = 0 := h.stay 0 (by decide)
theorem Rnm.iff0 (h : Rnm r rN) (n : Int) : r n = 0 ↔ n = 0 := ⟨fun e => h.inj n 0 (by rw [e, h.zero]), fun e => by rw [e, h.zero]⟩
theorem Rnm.dec0 (h : Rnm r rN) (n : Int) : decide (r n = 0) = decide (n = 0) := by rw [decide_eq_decide]; exact h.iff0 n
theorem Rnm.fits (h : Rnm r rN) (b : Bool) (n : Int) : fitsB b (r n) = fitsB b n := by
  unfold fitsB
  cases b
  · rw [cond_false, cond_false, h.dec0]
  · rw [cond_true, cond_true, h.var]
def renT (r : Int → Int) (t : Tm) : Tm := { t with a := r t.a }
def renI (r : Int → Int) (i : RIns) : RIns := { i with dst := r i.dst, a := r i.a, b := r i.b, args := i.args.map r }
def renB (r : Int → Int) (b : RBlk) : RBlk := { b with ins := b.ins.map (renI r), term := renT r b.term }
def renF (r : Int → Int) (f : RFun) : RFun := { f with params := f.params.map r, blocks := f.blocks.map (renB r) }
theorem isTerm_ren (h : Rnm r rN) (t : Tm) : isTerm (renT r t) = isTerm t := by
  unfold isTerm renT noneB
  simp only [List.all_cons, List.all_nil, h.dec0, h.var, h.fits]
theorem toL_ren (h : Rnm r rN) (t : Tm) : toL (renT r t) = toL t := by
  unfold toL
  rw [isTerm_ren h]
  rfl
theorem needsL_ren (h : Rnm r rN) (t : Tm) : needsL (renT r t) = (needsL t).map r := by
  unfold needsL
  rw [isTerm_ren h]
  show (bif isTerm t && !decide (r t.a = 0) then [r t.a] else []) = _
  rw [h.dec0]
  cases isTerm t && !decide (t.a = 0) <;> rfl
theorem isIns_ren (h : Rnm r rN) (i : RIns) : isIns (renI r i) = isIns i := by
  unfold isIns renI noneB
  simp only [List.all_cons, List.all_nil, h.dec0, h.var, h.fits, List.length_map, List.all_map, Function.comp_def]
theorem readsL_ren (h : Rnm r rN) (i : RIns) : readsL (renI r i) = (readsL i).map r := by
  unfold readsL
  rw [isIns_ren h]
  cases isIns i with
  | false => rfl
  | true =>
    rw [cond_true, cond_true, List.map_append]
    congr 1
    show [r i.a, r i.b].filter (fun n => !decide (n = 0)) = _
    simp only [List.filter_cons, List.filter_nil, h.dec0]
    cases decide (i.a = 0) <;> cases decide (i.b = 0) <;> simp
theorem defI_ren (h : Rnm r rN) (i : RIns) : defI (renI r i) = r (defI i) := by
  unfold defI
  rw [isIns_ren h]
  cases isIns i with
  | false => rw [cond_false, cond_false, h.zero]
  | true => rfl
theorem mem_ren (h : Rnm r rN) {l : List Int} {v : Int} : r v ∈ l.map r ↔ v ∈ l := by
  rw [List.mem_map]
  exact ⟨fun ⟨m, hm, e⟩ => h.inj _ _ e ▸ hm, fun hv => ⟨v, hv, rfl⟩⟩
theorem exposed_ren (h : Rnm r rN) : ∀ (l : List RIns) (t : Tm) (v : Int), exposed (l.map (renI r)) (renT r t) (r v) = exposed l t v
  | [], t, v => by
    show (needsL (renT r t)).contains (r v) = (needsL t).contains v
    rw [needsL_ren h, Bool.eq_iff_iff, List.contains_iff_mem, List.contains_iff_mem, mem_ren h]
  | i :: l, t, v => by
    show ((readsL (renI r i)).contains (r v) || (!decide (defI (renI r i) = r v) && exposed (l.map (renI r)) (renT r t) (r v))) = ((readsL i).contains v || (!decide (defI i = v) && exposed l t v))
    rw [exposed_ren h l t v, readsL_ren h, defI_ren h]
    have e1 : ((readsL i).map r).contains (r v) = (readsL i).contains v := by rw [Bool.eq_iff_iff, List.contains_iff_mem, List.contains_iff_mem, mem_ren h]
    have e2 : decide (r (defI i) = r v) = decide (defI i = v) := by rw [decide_eq_decide]; exact ⟨h.inj _ _, fun e => by rw [e]⟩
    rw [e1, e2]
theorem terms_ren (f : RFun) : (renF r f).terms = f.terms.map (renT r) := by
  unfold RFun.terms renF
  rw [List.map_map, List.map_map]; rfl
theorem toAt_ren (h : Rnm r rN) (ts : List Tm) (b : Nat) : toAt (ts.map (renT r)) b = toAt ts b := by
  unfold toAt
  rw [List.getElem?_map]
  cases ts[b]? with
  | none => rfl
  | some t => exact toL_ren h t
theorem okEs_ren (h : Rnm r rN) (ts : List Tm) : okEs (ts.map (renT r)) = okEs ts := by
  unfold okEs
  rw [List.all_map, List.length_map]
  congr 1
  funext t
  simp only [Function.comp, toL_ren h]
theorem dfs_congr {ts ts' : List Tm} (h : ∀ b, toAt ts' b = toAt ts b) : ∀ (n b : Nat) (st : Dst), dfs ts' n b st = dfs ts n b st
  | 0, _, _ => rfl
  | n + 1, b, st => by
    have : (fun st (t : Int) => dfs ts' n t.toNat st) = fun st t => dfs ts n t.toNat st := by funext st t; exact dfs_congr h n _ st
    show (bif st.1.testBit b then st else _) = (bif st.1.testBit b then st else _)
    rw [h b]
    simp only [this]
theorem edgesTo_ren (h : Rnm r rN) (ts : List Tm) : ∀ k, edgesTo (ts.map (renT r)) k = edgesTo ts k
  | 0 => by rw [edgesTo_zero, edgesTo_zero]
  | k + 1 => by
    cases ht : ts[k]? with
    | none =>
      have hl : ts.length ≤ k := by simpa using ht
      have e : ∀ us : List Tm, us.length ≤ k → edgesTo us (k + 1) = edgesTo us k := fun us hu => by
        unfold edgesTo; rw [List.take_of_length_le (by omega), List.take_of_length_le hu]
      rw [e _ (by simpa using hl), e _ hl, edgesTo_ren h ts k]
    | some t =>
      rw [edgesTo_succ ht, edgesTo_succ (t := renT r t) (by rw [List.getElem?_map, ht]; rfl), edgesTo_ren h ts k, toL_ren h]
theorem orderF_ren (h : Rnm r rN) (ts : List Tm) : orderF (ts.map (renT r)) = orderF ts := by
  have hc : closed (ts.map (renT r)) = closed ts := by
    unfold closed edges
    rw [List.length_map, edgesTo_ren h]
  unfold orderF
  rw [hc, List.length_map, dfs_congr (toAt_ren h ts)]
theorem longF_ren (f : RFun) : longF (renF r f) = longF f := by
  unfold longF renF
  simp only [List.length_map, List.any_map]
  congr 1
  apply congrArg
  funext b
  simp [Function.comp, renB]
theorem nodup_ren (h : Rnm r rN) {l : List Int} : (l.map r).Nodup ↔ l.Nodup := by
  unfold List.Nodup
  rw [List.pairwise_map]
  exact ⟨fun hn => hn.imp fun hne e => hne (by rw [e]), fun hn => hn.imp fun hne e => hne (h.inj _ _ e)⟩
theorem wholeF_ren (h : Rnm r rN) (f : RFun) : wholeF (renF r f) = wholeF f := by
  unfold wholeF renF
  simp only [List.all_map]
  have e1 : decide (f.params.map r).Nodup = decide f.params.Nodup := by rw [decide_eq_decide]; exact nodup_ren h
  have e2 : (varB ∘ r) = varB := by funext n; exact h.var n
  have e3 : (wholeB ∘ renB r) = wholeB := by
    funext b
    simp only [Function.comp, wholeB, renB, isTerm_ren h, List.all_map]
    congr 1
    apply congrArg
    funext i
    exact isIns_ren h i
  rw [e1, e2, e3]
theorem blk_ren {f : RFun} {b : Nat} {x : RBlk} (h : f.blocks[b]? = some x) : (renF r f).blocks[b]? = some (renB r x) := by
  unfold renF
  rw [List.getElem?_map, h]; rfl
theorem blk_unren {f : RFun} {b : Nat} {x : RBlk} (h : (renF r f).blocks[b]? = some x) : ∃ y, f.blocks[b]? = some y ∧ x = renB r y := by
  unfold renF at h
  rw [List.getElem?_map] at h
  cases hb : f.blocks[b]? with
  | none => rw [hb] at h; cases h
  | some y => rw [hb] at h; exact ⟨y, rfl, (Option.some.inj h).symm⟩
theorem Rnm.toNat (h : Rnm r rN) {n : Int} (hn : 0 ≤ n) : (r n).toNat = rN n.toNat := by
  have := h.nat n.toNat
  rw [Int.toNat_of_nonneg hn] at this
  rw [this]; simp
theorem Rnm.injN (h : Rnm r rN) {a b : Nat} (e : rN a = rN b) : a = b := by
  have h1 := h.nat a
  have h2 := h.nat b
  have : ((a : Nat) : Int) = b := h.inj _ _ (by rw [h1, h2, e])
  omega
theorem Bare_ren (h : Rnm r rN) {f : RFun} {v b : Nat} (hp : ∀ p ∈ f.params, 0 ≤ p) : Bare (renF r f) (rN v) b ↔ Bare f v b := by
  have hd : ∀ i : RIns, (defI (renI r i)).toNat = rN v ↔ (defI i).toNat = v := fun i => by
    rw [defI_ren h, h.toNat (defI_range i).1]
    exact ⟨h.injN, fun e => by rw [e]⟩
  constructor
  · intro hb
    induction hb with
    | zero hz =>
      refine .zero fun p hpm e => hz (r p) (List.mem_map_of_mem hpm) ?_
      rw [h.toNat (hp p hpm), e]
    | step _ ha hx ht ih =>
      obtain ⟨y, hy, rfl⟩ := blk_unren ha
      refine .step ih hy (fun i hi e => hx (renI r i) (List.mem_map_of_mem hi) ((hd i).2 e)) ?_
      rw [show (renB r y).term = renT r y.term from rfl, toL_ren h] at ht
      exact ht
  · intro hb
    induction hb with
    | zero hz =>
      refine .zero fun p hpm e => ?_
      obtain ⟨q, hq, rfl⟩ := List.mem_map.1 hpm
      rw [h.toNat (hp q hq)] at e
      exact hz q hq (h.injN e)
    | step _ ha hx ht ih =>
      refine .step ih (blk_ren ha) (fun i hi e => ?_) (by rw [show (renB r _).term = renT r _ from rfl, toL_ren h]; exact ht)
      obtain ⟨j, hj, rfl⟩ := List.mem_map.1 hi
      exact hx j hj ((hd j).1 e)
theorem valuedF_ren (h : Rnm r rN) {f : RFun} (hp : ∀ p ∈ f.params, 0 ≤ p) : valuedF (renF r f) = valuedF f := by
  rw [Bool.eq_iff_iff, valuedF_iff, valuedF_iff]
  constructor
  · intro hv b x v hx he hb
    have hr := exposed_range he
    refine hv b (renB r x) (r v) (blk_ren hx) (by show exposed (x.ins.map (renI r)) (renT r x.term) (r v) = true; rw [exposed_ren h]; exact he) ?_
    rw [h.toNat (by omega)]
    exact (Bare_ren h hp).2 hb
  · intro hv b x v hx he hb
    obtain ⟨y, hy, rfl⟩ := blk_unren hx
    obtain ⟨u, rfl⟩ := h.onto v
    have he2 : exposed y.ins y.term u = true := by rw [← exposed_ren h]; exact he
    have hr := exposed_range he2
    rw [h.toNat (by omega)] at hb
    exact hv b y u hy he2 ((Bare_ren h hp).1 hb)
theorem rightF_ren (h : Rnm r rN) (f : RFun) : rightF (renF r f) = rightF f := by
  unfold rightF
  rw [longF_ren, wholeF_ren h, terms_ren, okEs_ren h, orderF_ren h, show (renF r f).blocks.length = f.blocks.length by simp [renF]]
  cases hw : wholeF f with
  | false => rfl
  | true =>
    have hp : ∀ p ∈ f.params, 0 ≤ p := fun p hp => by have := whole_params hw p hp; omega
    rw [valuedF_ren h hp]
theorem noteI_ren (h : Rnm r rN) (i : RIns) : noteI (renI r i) = (noteI i).map r := by
  unfold noteI
  rw [readsL_ren h, defI_ren h]; simp
theorem noteF_ren (h : Rnm r rN) (f : RFun) : noteF (renF r f) = (noteF f).map r := by
  unfold noteF renF
  rw [List.map_append]
  congr 1
  rw [List.flatMap_map, List.map_flatMap]
  congr 1
  funext b
  unfold noteB renB
  rw [List.map_append, needsL_ren h, List.flatMap_map, List.map_flatMap]
  congr 2
  funext i
  exact noteI_ren h i
theorem okF_ren (h : Rnm r rN) (f : RFun) : okF (renF r f) = okF f := by
  unfold okF
  rw [longF_ren, wholeF_ren h]
theorem sizeF_ren (h : Rnm r rN) (f : RFun) : sizeF (renF r f) = sizeF f := by
  unfold sizeF
  rw [okF_ren h]
  congr 2
  unfold renF
  rw [List.map_map]
  apply List.map_congr_left
  intro b _
  simp [Function.comp, renB]
theorem noteF_pos {f : RFun} (h : okF f = true) : ∀ n ∈ noteF f, 0 ≤ n := fun n hn => by
  unfold noteF at hn
  rcases List.mem_append.1 hn with hn | hn
  · have := whole_params (ok_parts h).2 n hn; omega
  · obtain ⟨b, _, hb⟩ := List.mem_flatMap.1 hn
    unfold noteB at hb
    rcases List.mem_append.1 hb with hb | hb
    · obtain ⟨i, _, hi⟩ := List.mem_flatMap.1 hb
      exact (noteI_range hi).1
    · have := needsL_mem hb; omega
theorem varsF_mem_ren (h : Rnm r rN) {f : RFun} {v : Nat} (hv : v ∈ varsF f) : rN v ∈ varsF (renF r f) := by
  obtain ⟨h1, h2, n, hn, e⟩ := mem_varsF.1 hv
  have hn0 := noteF_pos h1 n hn
  have hvar : varB (r (v : Int)) = true := by rw [h.var, varB_iff]; omega
  rw [h.nat, varB_iff] at hvar
  refine mem_varsF.2 ⟨by rw [okF_ren h]; exact h1, by omega, r n, by rw [noteF_ren h]; exact List.mem_map_of_mem hn, ?_⟩
  rw [h.toNat hn0, e]
theorem varsF_nodup (f : RFun) : (varsF f).Nodup := by
  unfold varsF
  split
  · unfold varsTo
    exact List.Pairwise.filter _ List.nodup_range'
  · exact List.nodup_nil
theorem varsF_len_ren (h : Rnm r rN) (f : RFun) : (varsF (renF r f)).length = (varsF f).length := by
  apply Nat.le_antisymm
  · have key : ∀ v ∈ varsF (renF r f), v ∈ (varsF f).map rN := fun v hv => by
      obtain ⟨h1, h2, n, hn, e⟩ := mem_varsF.1 hv
      rw [okF_ren h] at h1
      rw [noteF_ren h] at hn
      obtain ⟨m, hm, rfl⟩ := List.mem_map.1 hn
      have hm0 := noteF_pos h1 m hm
      rw [h.toNat hm0] at e
      refine List.mem_map.2 ⟨m.toNat, mem_varsF.2 ⟨h1, ?_, m, hm, rfl⟩, e⟩
      have : varB (r (m.toNat : Int)) = true := by rw [h.nat, e, varB_iff]; omega
      rw [h.var, varB_iff] at this
      omega
    have := nodup_le _ _ (varsF_nodup _) key
    simpa using this
  · have hn : ((varsF f).map rN).Nodup := by
      have := varsF_nodup f
      unfold List.Nodup at this ⊢
      rw [List.pairwise_map]
      exact this.imp fun hne e => hne (h.injN e)
    have := nodup_le _ (varsF (renF r f)) hn fun v hv => by
      obtain ⟨u, hu, rfl⟩ := List.mem_map.1 hv
      exact varsF_mem_ren h hu
    simpa using this
end
/-- The renaming of the law. -/
def shiftI (k : Nat) (v : Int) : Int := if v < 1 ∨ 200 < v then v else (v - 1 + k) % 200 + 1
def shiftN (k v : Nat) : Nat := if v < 1 ∨ 200 < v then v else (v - 1 + k) % 200 + 1
theorem shift_rnm {k : Nat} (hk : k < 200) : Rnm (shiftI k) (shiftN k) := by
  have hv : ∀ n, varB (shiftI k n) = varB n := fun n => by
    unfold shiftI
    split
    · rfl
    · rw [Bool.eq_iff_iff, varB_iff, varB_iff]; omega
  refine ⟨hv, fun n hn => ?_, fun a b e => ?_, fun n => ?_, fun n => ?_⟩
  · unfold shiftI
    rw [if_pos]
    rw [← Bool.not_eq_true, varB_iff] at hn
    omega
  · unfold shiftI at e
    split at e <;> split at e <;> omega
  · by_cases h : n < 1 ∨ 200 < n
    · exact ⟨n, by unfold shiftI; rw [if_pos h]⟩
    · refine ⟨(n - 1 + (200 - k)) % 200 + 1, ?_⟩
      unfold shiftI
      rw [if_neg (by omega)]
      omega
  · unfold shiftI shiftN
    by_cases h : n < 1 ∨ 200 < n
    · rw [if_pos h, if_pos (by omega)]
    · rw [if_neg h, if_neg (by omega)]
      omega
end Go.Proofs.YtcojedoejpcolaaGreat

/- The package ir: the most operands, arguments; a variable renamed, walked. -/
namespace Go.Proofs.YtcojedoejpcolaaGreat
set_option linter.unusedVariables false
open Go Go.RowKit
set_option maxRecDepth 100000

def insMost (p : Nat × Nat) (i : RIns) : Nat × Nat := if i.op = 13 then (p.1, max p.2 i.args.length) else (max p.1 (readsL i).length, p.2)
def blkMost (p : Nat × Nat) (b : RBlk) : Nat × Nat := b.ins.foldl insMost (max p.1 (needsL b.term).length, p.2)
def mostF (f : RFun) : Nat × Nat := if okF f then f.blocks.foldl blkMost (0, f.params.length) else (0, 0)
theorem mostF_bare (f : RFun) : mostF f.bare = mostF f := by
  unfold mostF okF
  rw [longF_bare, wholeF_bare]
  congr 1
  show (f.blocks.map RBlk.bare).foldl blkMost (0, f.params.length) = _
  rw [List.foldl_map]
  congr 1
  funext p b
  show (b.ins.map RIns.bare).foldl insMost _ = _
  rw [List.foldl_map]
  rfl
theorem mostF_ren {r : Int → Int} {rN : Nat → Nat} (h : Rnm r rN) (f : RFun) : mostF (renF r f) = mostF f := by
  unfold mostF
  rw [okF_ren h]
  congr 1
  show (f.blocks.map (renB r)).foldl blkMost (0, (f.params.map r).length) = _
  rw [List.foldl_map, List.length_map]
  congr 1
  funext p b
  show (b.ins.map (renI r)).foldl insMost (max p.1 (needsL (renT r b.term)).length, p.2) = _
  rw [List.foldl_map, needsL_ren h, List.length_map]
  unfold blkMost
  congr 1
  funext p i
  unfold insMost
  rw [readsL_ren h, List.length_map]
  show (if i.op = 13 then (p.1, max p.2 (i.args.map r).length) else _) = _
  rw [List.length_map]
theorem sizeF_bare (f : RFun) : sizeF f.bare = sizeF f := by
  unfold sizeF okF
  rw [longF_bare, wholeF_bare]
  congr 2
  show (f.blocks.map RBlk.bare).map _ = _
  rw [List.map_map]
  apply List.map_congr_left
  intro b _
  simp [Function.comp, RBlk.bare]
theorem noteF_bare (f : RFun) : noteF f.bare = noteF f := by
  unfold noteF
  show f.params ++ (f.blocks.map RBlk.bare).flatMap noteB = _
  rw [List.flatMap_map]
  congr 2
  funext b
  show (b.ins.map RIns.bare).flatMap noteI ++ needsL b.term = _
  rw [List.flatMap_map]
  rfl
theorem varsF_bare (f : RFun) : varsF f.bare = varsF f := by
  unfold varsF okF
  rw [longF_bare, wholeF_bare, noteF_bare]
section
theorem maxI (a b : Nat) : (if (a : Int) < (b : Int) then (b : Int) else (a : Int)) = ((max a b : Nat) : Int) := by omega
def mostTo' (f : RFun) (k : Nat) : Nat × Nat := (f.blocks.take k).foldl blkMost (0, f.params.length)
set_option maxHeartbeats 4000000 in
theorem ir_Most_ct {w : World} {f : RFun} (hf : FunAt w w.heap.size f) (hfit : Fit f) : Ct Tryz.prog 44 #[f.val] w (Is (.tuple #[.int .i64 ((mostF f).1 : Nat), .int .i64 ((mostF f).2 : Nat)])) := by
  have hbl := hfit.blen
  refine Ct.mk Tryz.func44 rfl rfl ?_
  refine Cd.seq ?_
  refine Cd.region ?_
  refine Ol.x bxg ?_
  rintro _ _ ⟨g1, rfl, rfl⟩
  refine Ol.p asi ?_
  refine Ol.p asi ?_
  refine Ol.nil ?_
  refine Cd.seq ?_
  cases hok : okF f with
  | false =>
    have hv : mostF f = (0, 0) := by unfold mostF; rw [hok]; rfl
    rw [hv]
    refine Cd.mid (fun σ' L' => Has σ' [(14, .bool true)] ∧ [blk g1 (.cells f.cells.toArray 37)] = L') ?_ ?_
    · cases hl : longF f with
      | true =>
        refine Cd.region ?_
        refine Ol.p (ldw ag_api_Func (i := 0) rfl rfl) ?_
        refine Ol.s (cl en_ir_long (fun M w' hh => ir_long_ct (hf.now hh) hfit)) ?_
        refine Ol.p mvb ?_
        refine Ol.gn hl ?_
        refine Ol.gn hl ?_
        refine Ol.gn hl ?_
        refine Ol.p (pkTb hl) ?_
        refine Ol.nil ?_
        exact ⟨⟨rfl, trivial⟩, rfl⟩
      | false =>
        have hw : wholeF f = false := by unfold okF at hok; rw [hl] at hok; simpa using hok
        refine Cd.region ?_
        refine Ol.p (ldw ag_api_Func (i := 0) rfl rfl) ?_
        refine Ol.s (cl en_ir_long (fun M w' hh => ir_long_ct (hf.now hh) hfit)) ?_
        refine Ol.p mvb ?_
        refine Ol.gp hl (ldw ag_api_Func (i := 0) rfl rfl) ?_
        refine Ol.gs hl (cl en_ir_whole (fun M w' hh => ir_whole_ct (hf.now hh) hfit)) ?_
        refine Ol.gp hl noti ?_
        refine Ol.p (pkFb hl) ?_
        refine Ol.nil ?_
        exact ⟨⟨by show Value.bool _ = _; rw [hw]; rfl, trivial⟩, rfl⟩
    rintro σ' _ ⟨hs', rfl⟩
    refine Cd.has hs' ?_
    refine Cd.cond rfl (fun h => ?_) (fun h => by cases h)
    refine Cd.seq ?_
    refine Cd.region ?_
    refine Ol.p asi ?_
    refine Ol.p asi ?_
    refine Ol.nil ?_
    exact Cd.ret ⟨.tuple _, ret2 rfl rfl rfl, [], .nil, rfl, rfl⟩
  | true =>
  obtain ⟨hl, hw⟩ := ok_parts hok
  obtain ⟨h0, h200, h8, h64⟩ := long_parts hl
  have hwb : (!wholeF f) = false := by rw [hw]; rfl
  have hv : mostF f = f.blocks.foldl blkMost (0, f.params.length) := by unfold mostF; rw [hok]; rfl
  refine Cd.seq ?_
  refine Cd.region ?_
  refine Ol.p (ldw ag_api_Func (i := 0) rfl rfl) ?_
  refine Ol.s (cl en_ir_long (fun M w' hh => ir_long_ct (hf.now hh) hfit)) ?_
  refine Ol.p mvb ?_
  refine Ol.gp hl (ldw ag_api_Func (i := 0) rfl rfl) ?_
  refine Ol.gs hl (cl en_ir_whole (fun M w' hh => ir_whole_ct (hf.now hh) hfit)) ?_
  refine Ol.gp hl noti ?_
  refine Ol.p (pkFb hl) ?_
  refine Ol.nil ?_
  refine Cd.cond rfl (fun h => by rw [hwb] at h; cases h) (fun h => ?_)
  refine Cd.skip ?_
  refine Cd.seq ?_
  refine Cd.region ?_
  refine Ol.p (fdl fd_api_Func_0) ?_
  refine Ol.p (ld one_L_int (Rd.blk (i := 0) rfl rfl)) ?_
  refine Ol.p (lens sl_L_int) ?_
  refine Ol.p asi ?_
  refine Ol.nil ?_
  refine Cd.seq ?_
  refine Cd.seq ?_
  refine Cd.region ?_
  refine Ol.p (fdl fd_api_Func_1) ?_
  refine Ol.p (ld one_L_api_Block (Rd.blk (i := 0) rfl rfl)) ?_
  refine Ol.p (lens sl_L_api_Block) ?_
  refine Ol.p mvi ?_
  refine Ol.nil ?_
  refine Cd.block ?_
  refine Cd.loop (fun m σ L => ∃ k, m = f.blocks.length - k ∧ k ≤ f.blocks.length ∧ Has σ [(2, .int .i64 ((mostTo' f k).1 : Nat)), (3, .int .i64 ((mostTo' f k).2 : Nat)), (19, .slice f.bA f.blocks.length f.bC), (20, .int .i64 f.blocks.length), (21, .int .i64 k)] ∧ [blk g1 (.cells f.cells.toArray 37)] = L) (n := f.blocks.length) ⟨0, rfl, Nat.zero_le _, ⟨rfl, rfl, rfl, rfl, rfl, trivial⟩, rfl⟩ ?_
  rintro _ σ L ⟨k, rfl, hk, hs, rfl⟩
  refine Cd.has hs ?_
  clear hs
  refine Cd.seq ?_
  refine Cd.region ?_
  refine Ol.p lsi ?_
  refine Ol.nil ?_
  refine Cd.seq ?_
  refine Cd.cond rfl (fun h => ?_) (fun h => ?_)
  · have hlt : k < f.blocks.length := by
      simp only [decide_eq_true_eq] at h; omega
    obtain ⟨x, hx⟩ : ∃ x, f.blocks[k]? = some x := ⟨_, List.getElem?_eq_getElem hlt⟩
    have hxm := List.mem_of_getElem? hx
    have hxl := h64 x hxm
    obtain ⟨p, hp⟩ : ∃ p, p = mostTo' f k := ⟨_, rfl⟩
    have hp2 : mostTo' f (k + 1) = blkMost p x := by rw [hp]; unfold mostTo'; rw [take_snoc_ hx, List.foldl_append]; rfl
    rw [← hp]
    refine Cd.skip ?_
    refine Cd.seq ?_
    refine Cd.block ?_
    refine Cd.seq ?_
    refine Cd.region ?_
    refine Ol.p (ixn (ix := k) sl_L_api_Block (Som.slc hf.blocks (by omega))) ?_
    refine Ol.p (lds (es := x.cells) ag_api_Block hf.blocks x.len (fun j u hu => blk_cell hx hu)) ?_
    refine Ol.x (alc zr_api_Block) ?_
    rintro _ _ ⟨g5, rfl, rfl⟩
    refine Ol.s (stw (vs := x.cells.toArray) sz_api_Block rfl x.one (i := 0) rfl rfl) ?_
    refine Ol.nil ?_
    refine Cd.seq ?_
    refine Cd.region ?_
    refine Ol.p mvi ?_
    refine Ol.p (fdl fd_api_Block_1) ?_
    refine Ol.p (ldp (k := 0 + 1) (vs := x.term.cells.toArray) ag_api_Term (i := 0) rfl rfl (fun j u hu => by rw [Nat.zero_add, Nat.add_comm]; simpa [RBlk.cells] using hu)) ?_
    refine Ol.x (sp_call en_ir_Needs (fun M w' hh => ir_Needs_ct (t := x.term))) ?_
    rintro _ _ ⟨_, rfl, A28, c28, rfl, rfl⟩
    refine Ol.p (lens sl_L_int) ?_
    refine Ol.p maxi ?_
    refine Ol.p asi ?_
    refine Ol.keep (.sub (.cons _ (List.Sublist.refl _))) ?_
    refine Ol.nil ?_
    rw [maxI]
    obtain ⟨p0, hp0⟩ : ∃ p0 : Nat × Nat, p0 = (max p.1 (needsL x.term).length, p.2) := ⟨_, rfl⟩
    refine Cd.seq ?_
    refine Cd.region ?_
    refine Ol.p (fdl fd_api_Block_0) ?_
    refine Ol.p (ld one_L_api_Ins (Rd.blk (i := 0) rfl rfl)) ?_
    refine Ol.p (lens sl_L_api_Ins) ?_
    refine Ol.p mvi ?_
    refine Ol.nil ?_
    refine Cd.block ?_
    refine Cd.loop (fun m σ L => ∃ j, m = x.ins.length - j ∧ j ≤ x.ins.length ∧ Has σ [(2, .int .i64 (((x.ins.take j).foldl insMost p0).1 : Nat)), (3, .int .i64 (((x.ins.take j).foldl insMost p0).2 : Nat)), (5, .pointer (some ⟨g5, 0, none⟩)), (19, .slice f.bA f.blocks.length f.bC), (20, .int .i64 f.blocks.length), (21, .int .i64 k), (32, .slice x.iA x.ins.length x.iC), (33, .int .i64 x.ins.length), (34, .int .i64 j)] ∧ [blk g5 (.cells x.cells.toArray 34), blk g1 (.cells f.cells.toArray 37)] = L) (n := x.ins.length) ⟨0, rfl, Nat.zero_le _, ⟨by rw [hp0]; rfl, by rw [hp0]; rfl, rfl, rfl, rfl, rfl, rfl, rfl, rfl, trivial⟩, rfl⟩ ?_
    rintro _ σ L ⟨j, rfl, hj, hs, rfl⟩
    refine Cd.has hs ?_
    clear hs
    refine Cd.seq ?_
    refine Cd.region ?_
    refine Ol.p lsi ?_
    refine Ol.nil ?_
    refine Cd.seq ?_
    refine Cd.cond rfl (fun h2 => ?_) (fun h2 => ?_)
    · have hjl : j < x.ins.length := by
        simp only [decide_eq_true_eq] at h2; omega
      obtain ⟨i, hi⟩ : ∃ i, x.ins[j]? = some i := ⟨_, List.getElem?_eq_getElem hjl⟩
      have him := List.mem_of_getElem? hi
      have hrl := readsL_len i
      have hal := hfit.alen x hxm i him
      have hia : ∀ {M : List Res} {w' : World}, Hp w w.heap.size M w' → InsAt w' i := fun hh => ⟨(hf.args x hxm i him).now hh, hal, hfit.insr x hxm i him i.callee (by simp)⟩
      obtain ⟨q, hq⟩ : ∃ q, q = (x.ins.take j).foldl insMost p0 := ⟨_, rfl⟩
      have hq2 : (x.ins.take (j + 1)).foldl insMost p0 = insMost q i := by rw [hq, take_snoc_ hi, List.foldl_append]; rfl
      rw [← hq]
      refine Cd.skip ?_
      refine Cd.seq ?_
      refine Cd.block ?_
      refine Cd.seq ?_
      refine Cd.region ?_
      refine Ol.p (ixn (ix := j) sl_L_api_Ins (Som.slc (hf.ins x hxm) (by omega))) ?_
      refine Ol.p (lds (es := i.cells) ag_api_Ins (hf.ins x hxm) i.len (fun j u hu => ins_cell hi hu)) ?_
      refine Ol.x (alc zr_api_Ins) ?_
      rintro _ _ ⟨g7, rfl, rfl⟩
      refine Ol.s (stw (vs := i.cells.toArray) sz_api_Ins rfl i.one (i := 0) rfl rfl) ?_
      refine Ol.nil ?_
      refine Cd.seq ?_
      refine Cd.region ?_
      refine Ol.p (fdl fd_api_Ins_0) ?_
      refine Ol.p (ld (v := .int .i64 i.op) one_api_Op (Rd.blk (i := 0) rfl rfl)) ?_
      refine Ol.nil ?_
      refine Cd.block ?_
      refine Cd.seq ?_
      refine Cd.region ?_
      refine Ol.p eqi ?_
      refine Ol.p asb ?_
      refine Ol.nil ?_
      refine Cd.cond rfl (fun h3 => ?_) (fun h3 => ?_)
      · have hop : i.op = 13 := by simpa using h3
        refine Cd.region ?_
        refine Ol.p mvi ?_
        refine Ol.p (fdl fd_api_Ins_6) ?_
        refine Ol.p (ld (v := .slice i.aA i.args.length i.aC) one_L_int (Rd.blk (i := 0) rfl rfl)) ?_
        refine Ol.p (lens sl_L_int) ?_
        refine Ol.p maxi ?_
        refine Ol.p asi ?_
        refine Ol.keep (.sub (.cons _ (List.Sublist.refl _))) ?_
        refine Ol.nil ?_
        rw [maxI]
        refine Cd.region ?_
        refine Ol.p addi ?_
        refine Ol.p mvi ?_
        refine Ol.nil ?_
        refine ⟨x.ins.length - (j + 1), by omega, j + 1, rfl, by omega, ⟨?_, ?_, rfl, rfl, rfl, rfl, rfl, rfl, rfl, trivial⟩, rfl⟩
        · rw [hq2]; unfold insMost; rw [if_pos hop]; rfl
        · rw [hq2]; unfold insMost; rw [if_pos hop]; rfl
      have hop : ¬ i.op = 13 := by simpa using h3
      refine Cd.region ?_
      refine Ol.p mvi ?_
      refine Ol.p (ldw (cs := i.cells.toArray) ag_api_Ins (i := 0) rfl rfl) ?_
      refine Ol.x (sp_call en_ir_Reads (fun M w' hh => ir_Reads_ct (hia hh))) ?_
      rintro _ _ ⟨_, rfl, A42, c42, rfl, rfl⟩
      refine Ol.p (lens sl_L_int) ?_
      refine Ol.p maxi ?_
      refine Ol.p asi ?_
      refine Ol.keep (.sub (.cons _ (.cons _ (List.Sublist.refl _)))) ?_
      refine Ol.nil ?_
      rw [maxI]
      refine Cd.region ?_
      refine Ol.p addi ?_
      refine Ol.p mvi ?_
      refine Ol.nil ?_
      refine ⟨x.ins.length - (j + 1), by omega, j + 1, rfl, by omega, ⟨?_, ?_, rfl, rfl, rfl, rfl, rfl, rfl, rfl, trivial⟩, rfl⟩
      · rw [hq2]; unfold insMost; rw [if_neg hop]; rfl
      · rw [hq2]; unfold insMost; rw [if_neg hop]; rfl
    have hje : j = x.ins.length := by
      simp only [decide_eq_false_iff_not] at h2; omega
    subst hje
    rw [List.take_of_length_le (Nat.le_refl _)]
    refine Cd.exit (id := 2) ?_
    refine Cd.region ?_
    refine Ol.p addi ?_
    refine Ol.p mvi ?_
    refine Ol.keep (.sub (.cons _ (List.Sublist.refl _))) ?_
    refine Ol.nil ?_
    refine ⟨f.blocks.length - (k + 1), by omega, k + 1, rfl, by omega, ⟨?_, ?_, rfl, rfl, rfl, trivial⟩, rfl⟩
    · rw [hp2, hp0]; rfl
    · rw [hp2, hp0]; rfl
  have hke : k = f.blocks.length := by
    simp only [decide_eq_false_iff_not] at h; omega
  have hm : mostTo' f k = mostF f := by
    rw [hv, hke]
    unfold mostTo'
    rw [List.take_of_length_le (Nat.le_refl _)]
  rw [hm]
  refine Cd.exit (id := 0) ?_
  refine Cd.seq ?_
  refine Cd.region ?_
  refine Ol.p mvi ?_
  refine Ol.p mvi ?_
  refine Ol.p asi ?_
  refine Ol.p asi ?_
  refine Ol.nil ?_
  exact Cd.ret ⟨.tuple _, ret2 rfl rfl rfl, [], .nil, rfl, rfl⟩
end
end Go.Proofs.YtcojedoejpcolaaGreat

/- The document's answer of layer 03: whether a function is right; its variables; its size, walked. -/
namespace Go.Proofs.YtcojedoejpcolaaGreat
set_option linter.unusedVariables false
set_option linter.unusedSimpArgs false
open Go Go.RowKit
set_option maxRecDepth 100000

theorem readsL_ten (i : RIns) : (readsL i).length ≤ 10 := by
  unfold readsL
  cases h : isIns i with
  | false => simp
  | true =>
    rw [cond_true, List.length_append]
    have h1 := (isIns_parts h).2.2.2.2
    have h2 := List.length_filter_le (fun n => !decide (n = 0)) [i.a, i.b]
    simp only [List.length_cons, List.length_nil] at h2
    omega
theorem all_order2 {ts : List Tm} (hc : closed ts = true) : ts.length ≤ (orderF ts).length ↔ ∀ b, b < ts.length → Rc ts 0 b := by
  constructor
  · intro h b hb
    rw [← order_mem hc]
    by_cases hm : b ∈ orderF ts
    · exact hm
    · have := nodup_le (b :: orderF ts) (List.range ts.length) (List.nodup_cons.2 ⟨hm, order_nodup hc⟩) (fun x hx => by
        rcases List.mem_cons.1 hx with rfl | hx
        · simpa using hb
        · rw [order_mem hc] at hx
          cases hx with
          | refl => simp; omega
          | step _ h => have := toAt_lt hc h; simp; omega)
      simp at this
      omega
  · intro h
    have := nodup_le (List.range ts.length) (orderF ts) List.nodup_range (fun x hx => (order_mem hc x).2 (h x (by simpa using hx)))
    simpa using this
section
set_option maxHeartbeats 4000000 in
theorem ref03_Right_ct {w : World} {f : RFun} (hf : FunAt w w.heap.size f) (hfit : Fit f) : Ct Tryz.prog 47 #[f.val] w (Is (.int .i64 (rightF f))) := by
  have htl : f.terms.length = f.blocks.length := by simp [RFun.terms]
  refine Ct.mk Tryz.func47 rfl rfl ?_
  refine Cd.seq ?_
  refine Cd.region ?_
  refine Ol.x bxg ?_
  rintro _ _ ⟨g1, rfl, rfl⟩
  refine Ol.p asi ?_
  refine Ol.nil ?_
  refine Cd.seq ?_
  refine Cd.seq ?_
  refine Cd.region ?_
  refine Ol.p (ldw (cs := f.cells.toArray) ag_api_Func (i := 0) rfl rfl) ?_
  refine Ol.s (cl (v := .bool (longF f)) en_ref03_long (fun M w' hh => ref03_long_ct (hf.now hh) hfit)) ?_
  refine Ol.nil ?_
  refine Cd.cond rfl (fun hl => ?_) (fun hl => ?_)   -- $8
  · refine Cd.seq ?_
    refine Cd.region ?_
    refine Ol.p asi ?_
    refine Ol.nil ?_
    exact Cd.ret ⟨.int .i64 3, ret1 rfl rfl, [], Keep.nil, by unfold rightF; rw [hl]; rfl, rfl⟩
  obtain ⟨h0, h200, hp8, hi64⟩ := long_parts hl
  refine Cd.skip ?_
  refine Cd.seq ?_
  refine Cd.seq ?_
  refine Cd.region ?_
  refine Ol.p (ldw (cs := f.cells.toArray) ag_api_Func (i := 0) rfl rfl) ?_
  refine Ol.s (cl (v := .bool (wholeF f)) en_ref03_shaped (fun M w' hh => ref03_shaped_ct (hf.now hh) hfit)) ?_
  refine Ol.p noti ?_
  refine Ol.nil ?_
  refine Cd.cond rfl (fun hw => ?_) (fun hw => ?_)   -- $11
  · have hw : (!wholeF f) = true := hw
    refine Cd.seq ?_
    refine Cd.region ?_
    refine Ol.p asi ?_
    refine Ol.nil ?_
    exact Cd.ret ⟨.int .i64 2, ret1 rfl rfl, [], Keep.nil, by unfold rightF; rw [hl, hw]; rfl, rfl⟩
  have hw : (!wholeF f) = false := hw
  have hwt : wholeF f = true := by simpa using hw
  have hpar := whole_params hwt
  have e1 : rightF f = bif !okEs f.terms || decide ((orderF f.terms).length < f.blocks.length) then 9 else bif !valuedF f then 8 else 0 := by unfold rightF; rw [hl, hw]; rfl
  refine Cd.skip ?_
  refine Cd.seq ?_
  refine Cd.region ?_
  refine Ol.p (ldw (cs := f.cells.toArray) ag_api_Func (i := 0) rfl rfl) ?_
  refine Ol.x (sp_call (vs := [f.val]) (R := ReachR f) en_ref03_reached (fun M w' hh => ref03_reached_ct (hf.now hh) hfit h0 h200)) ?_
  rintro _ _ ⟨R, rfl, hR⟩
  rcases hR with ⟨hno, rfl, rfl⟩ | ⟨hok, A, c, rfl, rfl⟩
  · skip
    refine Ol.p mvt ?_
    refine Ol.p extv ?_
    refine Ol.p extv ?_
    refine Ol.p ass ?_
    refine Ol.p asb ?_
    refine Ol.nil ?_
    refine Cd.mid (fun σ' L' => Has σ' [(4, .bool false)] ∧ [blk g1 (.cells f.cells.toArray 37)] = L') ?_ ?_
    · refine Cd.seq ?_
      refine Cd.region ?_
      refine Ol.p asi ?_
      refine Ol.nil ?_
      refine Cd.block ?_   -- 0
      refine Cd.loop (fun m σ L => Has σ [(3, .slice none 0 0), (4, .bool false), (5, .int .i64 0)] ∧ [blk g1 (.cells f.cells.toArray 37)] = L) (n := 0) ⟨⟨rfl, rfl, rfl, trivial⟩, rfl⟩ ?_
      rintro _ σ L ⟨hs, rfl⟩
      refine Cd.has hs ?_
      clear hs
      refine Cd.seq ?_
      refine Cd.seq ?_
      refine Cd.region ?_
      refine Ol.p mvi ?_
      refine Ol.p mvs ?_
      refine Ol.p (lens sl_L_bool) ?_
      refine Ol.p lsi ?_
      refine Ol.nil ?_
      refine Cd.cond rfl (fun h => by cases h) (fun _ => ?_)
      refine Cd.exit (id := 0) ?_
      exact ⟨⟨rfl, trivial⟩, rfl⟩
    rintro σ' _ ⟨hs', rfl⟩
    refine Cd.has hs' ?_
    clear hs'
    refine Cd.seq ?_
    refine Cd.seq ?_
    refine Cd.region ?_
    refine Ol.p mvb ?_
    refine Ol.p noti ?_
    refine Ol.nil ?_
    refine Cd.cond rfl (fun _ => ?_) (fun h => by cases h)
    refine Cd.seq ?_
    refine Cd.region ?_
    refine Ol.p asi ?_
    refine Ol.nil ?_
    exact Cd.ret ⟨.int .i64 9, ret1 rfl rfl, [], Keep.nil, by rw [e1, hno]; rfl, rfl⟩
  have hcl := okEs_closed hok (by omega) (by omega)
  obtain ⟨S, hS⟩ : ∃ S, S = iterF (passA (fun _ => true) f.terms) f.blocks.length oneB := ⟨_, rfl⟩
  rw [← hS]
  have hall : ((List.range f.blocks.length).all S) = !decide ((orderF f.terms).length < f.blocks.length) := by
    rw [Bool.eq_iff_iff, List.all_eq_true, Bool.not_eq_true', decide_eq_false_iff_not, Nat.not_lt]
    rw [← htl, all_order2 hcl]
    constructor
    · intro h b hb
      have := h b (by simpa using hb)
      rw [hS, ← htl] at this
      exact (reached_rounds hcl hb).1 this
    · intro h b hb
      have hb : b < f.terms.length := by simpa using hb
      rw [hS, ← htl]
      exact (reached_rounds hcl hb).2 (h b hb)
  refine Ol.keep Keep.comm ?_
  refine Ol.p mvt ?_
  refine Ol.p extv ?_
  refine Ol.p extv ?_
  refine Ol.p ass ?_
  refine Ol.p asb ?_
  refine Ol.nil ?_
  refine Cd.mid (fun σ' L' => Has σ' [(1, .pointer (some ⟨g1, 0, none⟩)), (4, .bool ((List.range f.blocks.length).all S))] ∧ [blk g1 (.cells f.cells.toArray 37)] = L') ?_ ?_
  · refine Cd.seq ?_
    refine Cd.region ?_
    refine Ol.p asi ?_
    refine Ol.nil ?_
    refine Cd.block ?_   -- 0
    refine Cd.loop (fun m σ L => ∃ k, m = f.blocks.length - k ∧ k ≤ f.blocks.length ∧ Has σ [(1, .pointer (some ⟨g1, 0, none⟩)), (3, .slice A f.blocks.length c), (4, .bool ((List.range k).all S)), (5, .int .i64 k)] ∧ [blk g1 (.cells f.cells.toArray 37), row (.slice A f.blocks.length c) 4 1 f.blocks.length (boolsL f.blocks.length S)] = L) (n := f.blocks.length) ⟨0, rfl, Nat.zero_le _, ⟨rfl, rfl, rfl, rfl, trivial⟩, rfl⟩ ?_
    rintro _ σ L ⟨k, rfl, hk, hs, rfl⟩
    refine Cd.has hs ?_
    clear hs
    refine Cd.seq ?_
    refine Cd.seq ?_
    refine Cd.region ?_
    refine Ol.p mvi ?_
    refine Ol.p mvs ?_
    refine Ol.p (lens sl_L_bool) ?_
    refine Ol.p lsi ?_
    refine Ol.nil ?_
    refine Cd.cond rfl (fun h => ?_) (fun h => ?_)   -- $20
    · have hlt := lt_of h
      have hr : (List.range (k + 1)).all S = ((List.range k).all S && S k) := by
        rw [List.range_succ, List.all_append]
        simp
      refine Cd.skip ?_
      refine Cd.seq ?_
      refine Cd.block ?_   -- 1
      cases q1 : (List.range k).all S with
      | true =>
        refine Cd.region ?_
        refine Ol.p mvb ?_
        refine Ol.p mvb ?_
        refine Ol.gp rfl mvs ?_
        refine Ol.gp rfl mvi ?_
        refine Ol.gp rfl (ixn (ix := k) sl_L_bool (Som.row (i := 1) rfl (by omega))) ?_
        refine Ol.gp rfl (ld (v := .bool (S k)) one_bool (Rd.row (i := 1) rfl (boolsL_at hlt))) ?_
        refine Ol.p (pkTb rfl) ?_
        refine Ol.p asb ?_
        refine Ol.nil ?_
        refine Cd.region ?_
        refine Ol.p mvi ?_
        refine Ol.p addi ?_
        refine Ol.p asi ?_
        refine Ol.nil ?_
        exact ⟨f.blocks.length - (k + 1), by omega, k + 1, rfl, by omega, ⟨rfl, rfl, congrArg Value.bool (by rw [hr, q1, Bool.true_and]), rfl, trivial⟩, rfl⟩
      | false =>
        refine Cd.region ?_
        refine Ol.p mvb ?_
        refine Ol.p mvb ?_
        refine Ol.gn rfl ?_
        refine Ol.gn rfl ?_
        refine Ol.gn rfl ?_
        refine Ol.gn rfl ?_
        refine Ol.p (pkFb rfl) ?_
        refine Ol.p asb ?_
        refine Ol.nil ?_
        refine Cd.region ?_
        refine Ol.p mvi ?_
        refine Ol.p addi ?_
        refine Ol.p asi ?_
        refine Ol.nil ?_
        exact ⟨f.blocks.length - (k + 1), by omega, k + 1, rfl, by omega, ⟨rfl, rfl, congrArg Value.bool (by rw [hr, q1, Bool.false_and]), rfl, trivial⟩, rfl⟩
    have hge := ge_of h
    have hke : k = f.blocks.length := by omega
    rw [hke]
    refine Cd.keep (.sub (.cons_cons _ (.cons _ .slnil))) ?_
    refine Cd.exit (id := 0) ?_
    exact ⟨⟨rfl, rfl, trivial⟩, rfl⟩
  rintro σ' _ ⟨hs', rfl⟩
  refine Cd.has hs' ?_
  clear hs'
  rw [hok] at e1
  refine Cd.seq ?_
  refine Cd.seq ?_
  refine Cd.region ?_
  refine Ol.p mvb ?_
  refine Ol.p noti ?_
  refine Ol.nil ?_
  refine Cd.cond rfl (fun h => ?_) (fun h => ?_)   -- $31
  · have h : (!(List.range f.blocks.length).all S) = true := h
    rw [hall, Bool.not_not] at h
    refine Cd.seq ?_
    refine Cd.region ?_
    refine Ol.p asi ?_
    refine Ol.nil ?_
    exact Cd.ret ⟨.int .i64 9, ret1 rfl rfl, [], Keep.nil, by rw [e1, h]; rfl, rfl⟩
  have h : (!(List.range f.blocks.length).all S) = false := h
  rw [hall, Bool.not_not] at h
  rw [h] at e1
  refine Cd.skip ?_
  refine Cd.seq ?_
  refine Cd.seq ?_
  refine Cd.region ?_
  refine Ol.p asi ?_
  refine Ol.nil ?_
  refine Cd.block ?_   -- 2
  refine Cd.loop (fun m σ L => ∃ k, m = 200 - k ∧ k ≤ 200 ∧ (∀ v : Int, 1 ≤ v → v ≤ k → lacksB f v = false) ∧ Has σ [(1, .pointer (some ⟨g1, 0, none⟩)), (6, .int .i64 ((k + 1 : Nat) : Int))] ∧ [blk g1 (.cells f.cells.toArray 37)] = L) (n := 200) ⟨0, rfl, Nat.zero_le _, (fun v h1 h2 => by omega), ⟨rfl, rfl, trivial⟩, rfl⟩ ?_
  rintro _ σ L ⟨k, rfl, hk, hno, hs, rfl⟩
  refine Cd.has hs ?_
  clear hs
  refine Cd.seq ?_
  refine Cd.seq ?_
  refine Cd.region ?_
  refine Ol.p mvi ?_
  refine Ol.p lei ?_
  refine Ol.nil ?_
  refine Cd.cond rfl (fun h2 => ?_) (fun h2 => ?_)   -- $33
  · have hlt : k < 200 := by
      have h2 : decide (((k + 1 : Nat) : Int) ≤ 200) = true := h2
      have := of_decide_eq_true h2
      omega
    refine Cd.skip ?_
    refine Cd.seq ?_
    refine Cd.block ?_   -- 3
    refine Cd.seq ?_
    refine Cd.region ?_
    refine Ol.p (ldw (cs := f.cells.toArray) ag_api_Func (i := 0) rfl rfl) ?_
    refine Ol.p mvi ?_
    refine Ol.s (cl (v := .bool (lacksB f ((k + 1 : Nat) : Int))) en_ref03_lacks (fun M w' hh => ref03_lacks_ct (hf.now hh) hfit hcl (fun p hp => (hpar p hp).1) (by omega) (fun _ _ i _ => readsL_ten i))) ?_
    refine Ol.nil ?_
    refine Cd.cond rfl (fun h3 => ?_) (fun h3 => ?_)   -- $38
    · have hv : valuedF f = false := by
        cases hv : valuedF f with
        | false => rfl
        | true =>
          have := valued_lacks.1 hv ((k + 1 : Nat) : Int) (by omega) (by omega)
          rw [this] at h3
          cases h3
      refine Cd.seq ?_
      refine Cd.region ?_
      refine Ol.p asi ?_
      refine Ol.nil ?_
      exact Cd.ret ⟨.int .i64 8, ret1 rfl rfl, [], Keep.nil, by rw [e1, hv]; rfl, rfl⟩
    refine Cd.skip ?_
    refine Cd.region ?_
    refine Ol.p mvi ?_
    refine Ol.p addi ?_
    refine Ol.p asi ?_
    refine Ol.nil ?_
    refine ⟨200 - (k + 1), by omega, k + 1, rfl, by omega, (fun v h4 h5 => ?_), ⟨rfl, rfl, trivial⟩, rfl⟩
    by_cases h6 : v ≤ k
    · exact hno v h4 h6
    · have : v = ((k + 1 : Nat) : Int) := by omega
      rw [this]; exact h3
  have hge : k = 200 := by
    have h2 : decide (((k + 1 : Nat) : Int) ≤ 200) = false := h2
    have := of_decide_eq_false h2
    omega
  have hv : valuedF f = true := valued_lacks.2 fun v h4 h5 => hno v h4 (by omega)
  refine Cd.exit (id := 2) ?_
  refine Cd.seq ?_
  refine Cd.region ?_
  refine Ol.p asi ?_
  refine Ol.nil ?_
  exact Cd.ret ⟨.int .i64 0, ret1 rfl rfl, [], Keep.nil, by rw [e1, hv]; rfl, rfl⟩
end
end Go.Proofs.YtcojedoejpcolaaGreat

/- The document's answer of layer 03: a function's variables, its most, its size, walked. -/
namespace Go.Proofs.YtcojedoejpcolaaGreat
set_option linter.unusedVariables false
set_option linter.unusedSimpArgs false
open Go Go.RowKit
set_option maxRecDepth 100000

theorem insMost_max (k : Nat) : ∀ (l : List RIns) (a b : Nat), l.foldl insMost (max a k, b) = (max (l.foldl insMost (a, b)).1 k, (l.foldl insMost (a, b)).2)
  | [], a, b => rfl
  | i :: l, a, b => by
    rw [List.foldl_cons, List.foldl_cons]
    unfold insMost
    by_cases h : i.op = 13
    · rw [if_pos h, if_pos h]
      exact insMost_max k l a _
    · rw [if_neg h, if_neg h]
      simp only
      rw [show max (max a k) (readsL i).length = max (max a (readsL i).length) k by omega]
      exact insMost_max k l _ b
theorem max_val (a b : Nat) : (if (a : Int) < (b : Int) then (b : Int) else (a : Int)) = ((max a b : Nat) : Int) := by
  by_cases h : a < b
  · rw [if_pos (by omega)]; omega
  · rw [if_neg (by omega)]; omega
section
theorem ref03_Size_ct {w : World} {f : RFun} (hf : FunAt w w.heap.size f) (hfit : Fit f) : Ct Tryz.prog 51 #[f.val] w (Is (.int .i64 (sizeF f : Nat))) := by
  refine Ct.mk Tryz.func51 rfl rfl ?_
  refine Cd.seq ?_
  refine Cd.region ?_
  refine Ol.x bxg ?_
  rintro _ _ ⟨g1, rfl, rfl⟩
  refine Ol.p asi ?_
  refine Ol.nil ?_
  have ho : okF f = !(longF f || !wholeF f) := by unfold okF; cases longF f <;> cases wholeF f <;> rfl
  refine Cd.seq ?_
  refine Cd.mid (fun σ' L' => Has σ' [(1, .pointer (some ⟨g1, 0, none⟩)), (11, .bool (longF f || !wholeF f))] ∧ [blk g1 (.cells f.cells.toArray 37)] = L') ?_ ?_
  · cases q0 : longF f with
    | true =>
      refine Cd.region ?_
      refine Ol.p (ldw (cs := f.cells.toArray) ag_api_Func (i := 0) rfl rfl) ?_
      refine Ol.s (cl (v := .bool (longF f)) en_ref03_long (fun M w' hh => ref03_long_ct (hf.now hh) hfit)) ?_
      refine Ol.p mvb ?_
      refine Ol.gn q0 ?_
      refine Ol.gn q0 ?_
      refine Ol.gn q0 ?_
      refine Ol.p (pkTb q0) ?_
      refine Ol.nil ?_
      exact ⟨⟨rfl, rfl, trivial⟩, rfl⟩
    | false =>
      refine Cd.region ?_
      refine Ol.p (ldw (cs := f.cells.toArray) ag_api_Func (i := 0) rfl rfl) ?_
      refine Ol.s (cl (v := .bool (longF f)) en_ref03_long (fun M w' hh => ref03_long_ct (hf.now hh) hfit)) ?_
      refine Ol.p mvb ?_
      refine Ol.gp q0 (ldw (cs := f.cells.toArray) ag_api_Func (i := 0) rfl rfl) ?_
      refine Ol.gs q0 (cl (v := .bool (wholeF f)) en_ref03_shaped (fun M w' hh => ref03_shaped_ct (hf.now hh) hfit)) ?_
      refine Ol.gp q0 noti ?_
      refine Ol.p (pkFb q0) ?_
      refine Ol.nil ?_
      exact ⟨⟨rfl, rfl, trivial⟩, rfl⟩
  rintro σ' _ ⟨hs', rfl⟩
  refine Cd.has hs' ?_
  clear hs'
  refine Cd.cond rfl (fun h => ?_) (fun h => ?_)
  · rw [h] at ho
    have ho : okF f = false := ho
    refine Cd.seq ?_
    refine Cd.region ?_
    refine Ol.p asi ?_
    refine Ol.nil ?_
    exact Cd.ret ⟨.int .i64 0, ret1 rfl rfl, [], Keep.nil, by unfold sizeF; rw [ho]; rfl, rfl⟩
  rw [h] at ho
  have ho : okF f = true := ho
  obtain ⟨hl, hw⟩ := ok_parts ho
  obtain ⟨h0, h200, hp8, hi64⟩ := long_parts hl
  clear h
  refine Cd.skip ?_
  have e : sizeF f = (f.blocks.map fun b => b.ins.length + 1).sum := by unfold sizeF; rw [ho]; rfl
  refine Cd.seq ?_
  refine Cd.region ?_
  refine Ol.p asi ?_
  refine Ol.nil ?_
  refine Cd.seq ?_
  refine Cd.seq ?_
  refine Cd.region ?_
  refine Ol.p asi ?_
  refine Ol.nil ?_
  refine Cd.block ?_   -- 0
  refine Cd.loop (fun m σ L => ∃ k s, m = f.blocks.length - k ∧ k ≤ f.blocks.length ∧ s = ((f.blocks.take k).map fun b => b.ins.length + 1).sum ∧ s ≤ 65 * k ∧ Has σ [(1, .pointer (some ⟨g1, 0, none⟩)), (3, .int .i64 ((s : Nat) : Int)), (4, .int .i64 k)] ∧ [blk g1 (.cells f.cells.toArray 37)] = L) (n := f.blocks.length) ⟨0, 0, rfl, Nat.zero_le _, rfl, Nat.le_refl _, ⟨rfl, rfl, rfl, trivial⟩, rfl⟩ ?_
  rintro _ σ L ⟨k, s, rfl, hk, hsum, hs65, hs, rfl⟩
  refine Cd.has hs ?_
  clear hs
  refine Cd.seq ?_
  refine Cd.seq ?_
  refine Cd.region ?_
  refine Ol.p mvi ?_
  refine Ol.p (fdl fd_api_Func_1) ?_
  refine Ol.p (ld (v := .slice f.bA f.blocks.length f.bC) one_L_api_Block (Rd.blk (i := 0) rfl rfl)) ?_
  refine Ol.p (lens sl_L_api_Block) ?_
  refine Ol.p lsi ?_
  refine Ol.nil ?_
  refine Cd.cond rfl (fun h => ?_) (fun h => ?_)
  · have hlt := lt_of h
    obtain ⟨x, hx⟩ : ∃ x, f.blocks[k]? = some x := ⟨_, List.getElem?_eq_getElem hlt⟩
    have hx64 := hi64 x (List.mem_of_getElem? hx)
    refine Cd.skip ?_
    refine Cd.seq ?_
    refine Cd.block ?_   -- 1
    refine Cd.region ?_
    refine Ol.p mvi ?_
    refine Ol.p (fdl fd_api_Func_1) ?_
    refine Ol.p (ld (v := .slice f.bA f.blocks.length f.bC) one_L_api_Block (Rd.blk (i := 0) rfl rfl)) ?_
    refine Ol.p mvi ?_
    refine Ol.p (ixn (ix := k) sl_L_api_Block (Som.slc hf.blocks (by omega))) ?_
    refine Ol.p (fdp fd_api_Block_0) ?_
    refine Ol.p (ld (v := .slice x.iA x.ins.length x.iC) one_L_api_Ins (Rd.slc hf.blocks (ins_slc hx))) ?_
    refine Ol.p (lens sl_L_api_Ins) ?_
    refine Ol.p addi ?_
    refine Ol.p addi ?_
    refine Ol.p asi ?_
    refine Ol.nil ?_
    refine Cd.region ?_
    refine Ol.p mvi ?_
    refine Ol.p addi ?_
    refine Ol.p asi ?_
    refine Ol.nil ?_
    refine ⟨f.blocks.length - (k + 1), by omega, k + 1, s + (x.ins.length + 1), rfl, by omega, ?_, by omega, ⟨rfl, congrArg (Value.int .i64) (by omega), rfl, trivial⟩, rfl⟩
    rw [take_snoc_ hx, List.map_append, List.sum_append, ← hsum]
    simp
  have hge := ge_of h
  rw [List.take_of_length_le hge, ← e] at hsum
  refine Cd.exit (id := 0) ?_
  refine Cd.seq ?_
  refine Cd.region ?_
  refine Ol.p mvi ?_
  refine Ol.p asi ?_
  refine Ol.nil ?_
  exact Cd.ret ⟨.int .i64 ((s : Nat) : Int), ret1 rfl rfl, [], Keep.nil, by rw [hsum], rfl⟩
end
section
set_option maxHeartbeats 1000000 in
theorem ref03_Most_ct {w : World} {f : RFun} (hf : FunAt w w.heap.size f) (hfit : Fit f) : Ct Tryz.prog 45 #[f.val] w (Is (.tuple #[.int .i64 ((mostF f).1 : Nat), .int .i64 ((mostF f).2 : Nat)])) := by
  refine Ct.mk Tryz.func45 rfl rfl ?_
  refine Cd.seq ?_
  refine Cd.region ?_
  refine Ol.x bxg ?_
  rintro _ _ ⟨g1, rfl, rfl⟩
  refine Ol.p asi ?_
  refine Ol.p asi ?_
  refine Ol.nil ?_
  have ho : okF f = !(longF f || !wholeF f) := by unfold okF; cases longF f <;> cases wholeF f <;> rfl
  refine Cd.seq ?_
  refine Cd.mid (fun σ' L' => Has σ' [(1, .pointer (some ⟨g1, 0, none⟩)), (15, .bool (longF f || !wholeF f))] ∧ [blk g1 (.cells f.cells.toArray 37)] = L') ?_ ?_
  · cases q0 : longF f with
    | true =>
      refine Cd.region ?_
      refine Ol.p (ldw (cs := f.cells.toArray) ag_api_Func (i := 0) rfl rfl) ?_
      refine Ol.s (cl (v := .bool (longF f)) en_ref03_long (fun M w' hh => ref03_long_ct (hf.now hh) hfit)) ?_
      refine Ol.p mvb ?_
      refine Ol.gn q0 ?_
      refine Ol.gn q0 ?_
      refine Ol.gn q0 ?_
      refine Ol.p (pkTb q0) ?_
      refine Ol.nil ?_
      exact ⟨⟨rfl, rfl, trivial⟩, rfl⟩
    | false =>
      refine Cd.region ?_
      refine Ol.p (ldw (cs := f.cells.toArray) ag_api_Func (i := 0) rfl rfl) ?_
      refine Ol.s (cl (v := .bool (longF f)) en_ref03_long (fun M w' hh => ref03_long_ct (hf.now hh) hfit)) ?_
      refine Ol.p mvb ?_
      refine Ol.gp q0 (ldw (cs := f.cells.toArray) ag_api_Func (i := 0) rfl rfl) ?_
      refine Ol.gs q0 (cl (v := .bool (wholeF f)) en_ref03_shaped (fun M w' hh => ref03_shaped_ct (hf.now hh) hfit)) ?_
      refine Ol.gp q0 noti ?_
      refine Ol.p (pkFb q0) ?_
      refine Ol.nil ?_
      exact ⟨⟨rfl, rfl, trivial⟩, rfl⟩
  rintro σ' _ ⟨hs', rfl⟩
  refine Cd.has hs' ?_
  clear hs'
  refine Cd.cond rfl (fun h => ?_) (fun h => ?_)
  · rw [h] at ho
    have ho : okF f = false := ho
    refine Cd.seq ?_
    refine Cd.region ?_
    refine Ol.p asi ?_
    refine Ol.p asi ?_
    refine Ol.nil ?_
    exact Cd.ret ⟨.tuple #[.int .i64 0, .int .i64 0], ret2 rfl rfl rfl, [], Keep.nil, by unfold mostF; rw [ho]; rfl, rfl⟩
  rw [h] at ho
  have ho : okF f = true := ho
  obtain ⟨hl, hw⟩ := ok_parts ho
  obtain ⟨h0, h200, hp8, hi64⟩ := long_parts hl
  clear h
  refine Cd.skip ?_
  have e : mostF f = f.blocks.foldl blkMost (0, f.params.length) := by unfold mostF; rw [ho]; rfl
  refine Cd.seq ?_
  refine Cd.draw mixed 4 (fun _ => none) (fun _ => []) (by kernel_rfl) (fun _ _ h => by cases h) (fun u hu => ?_)
  refine Wk.p (fdl fd_api_Func_0) ?_
  refine Wk.p (ld (v := .slice f.pA f.params.length f.pC) one_L_int (Rd.blk (i := 0) rfl rfl)) ?_
  refine Wk.p (lens sl_L_int) ?_
  refine Wk.p asi ?_
  refine Wk.nil ?_
  refine Ol.p asi ?_
  refine Ol.nil ?_
  refine Cd.seq ?_
  refine Cd.seq ?_
  refine Cd.region ?_
  refine Ol.p asi ?_
  refine Ol.nil ?_
  refine Cd.block ?_   -- 0
  refine Cd.loop (fun m σ L => ∃ k a b, m = f.blocks.length - k ∧ k ≤ f.blocks.length ∧ (a, b) = (f.blocks.take k).foldl blkMost (0, f.params.length) ∧ Has σ [(1, .pointer (some ⟨g1, 0, none⟩)), (4, .int .i64 ((a : Nat) : Int)), (5, .int .i64 ((b : Nat) : Int)), (6, .int .i64 k)] ∧ [blk g1 (.cells f.cells.toArray 37)] = L) (n := f.blocks.length) ⟨0, 0, f.params.length, rfl, Nat.zero_le _, rfl, ⟨rfl, rfl, rfl, rfl, trivial⟩, rfl⟩ ?_
  rintro _ σ L ⟨k, a, b, rfl, hk, hab, hs, rfl⟩
  refine Cd.has hs ?_
  clear hs
  refine Cd.seq ?_
  refine Cd.seq ?_
  refine Cd.region ?_
  refine Ol.p mvi ?_
  refine Ol.p (fdl fd_api_Func_1) ?_
  refine Ol.p (ld (v := .slice f.bA f.blocks.length f.bC) one_L_api_Block (Rd.blk (i := 0) rfl rfl)) ?_
  refine Ol.p (lens sl_L_api_Block) ?_
  refine Ol.p lsi ?_
  refine Ol.nil ?_
  refine Cd.cond rfl (fun h => ?_) (fun h => ?_)
  · have hlt := lt_of h
    obtain ⟨x, hx⟩ : ∃ x, f.blocks[k]? = some x := ⟨_, List.getElem?_eq_getElem hlt⟩
    have hxm := List.mem_of_getElem? hx
    have hx64 := hi64 x hxm
    refine Cd.skip ?_
    refine Cd.seq ?_
    refine Cd.block ?_   -- 1
    refine Cd.mid (fun σ' L' => ∃ a' b', (a', b') = x.ins.foldl insMost (a, b) ∧ Has σ' [(1, .pointer (some ⟨g1, 0, none⟩)), (4, .int .i64 ((a' : Nat) : Int)), (5, .int .i64 ((b' : Nat) : Int)), (6, .int .i64 k)] ∧ [blk g1 (.cells f.cells.toArray 37)] = L') ?_ ?_
    · refine Cd.seq ?_
      refine Cd.region ?_
      refine Ol.p asi ?_
      refine Ol.nil ?_
      refine Cd.block ?_   -- 2
      refine Cd.loop (fun m σ L => ∃ j a' b', m = x.ins.length - j ∧ j ≤ x.ins.length ∧ (a', b') = (x.ins.take j).foldl insMost (a, b) ∧ Has σ [(1, .pointer (some ⟨g1, 0, none⟩)), (4, .int .i64 ((a' : Nat) : Int)), (5, .int .i64 ((b' : Nat) : Int)), (6, .int .i64 k), (7, .int .i64 j)] ∧ [blk g1 (.cells f.cells.toArray 37)] = L) (n := x.ins.length) ⟨0, a, b, rfl, Nat.zero_le _, rfl, ⟨rfl, rfl, rfl, rfl, rfl, trivial⟩, rfl⟩ ?_
      rintro _ σ L ⟨j, a', b', rfl, hj, hab', hs, rfl⟩
      refine Cd.has hs ?_
      clear hs
      refine Cd.seq ?_
      refine Cd.seq ?_
      refine Cd.region ?_
      refine Ol.p mvi ?_
      refine Ol.p (fdl fd_api_Func_1) ?_
      refine Ol.p (ld (v := .slice f.bA f.blocks.length f.bC) one_L_api_Block (Rd.blk (i := 0) rfl rfl)) ?_
      refine Ol.p mvi ?_
      refine Ol.p (ixn (ix := k) sl_L_api_Block (Som.slc hf.blocks (by omega))) ?_
      refine Ol.p (fdp fd_api_Block_0) ?_
      refine Ol.p (ld (v := .slice x.iA x.ins.length x.iC) one_L_api_Ins (Rd.slc hf.blocks (ins_slc hx))) ?_
      refine Ol.p (lens sl_L_api_Ins) ?_
      refine Ol.p lsi ?_
      refine Ol.nil ?_
      refine Cd.cond rfl (fun h2 => ?_) (fun h2 => ?_)
      · have hlt2 := lt_of h2
        obtain ⟨i, hi⟩ : ∃ i, x.ins[j]? = some i := ⟨_, List.getElem?_eq_getElem hlt2⟩
        have him := List.mem_of_getElem? hi
        have hial := hfit.alen x hxm i him
        refine Cd.skip ?_
        refine Cd.mid (fun σ' L' => Has σ' [(1, .pointer (some ⟨g1, 0, none⟩)), (4, .int .i64 (((insMost (a', b') i).1 : Nat) : Int)), (5, .int .i64 (((insMost (a', b') i).2 : Nat) : Int)), (6, .int .i64 k), (7, .int .i64 j)] ∧ [blk g1 (.cells f.cells.toArray 37)] = L') ?_ ?_
        · refine Cd.block ?_   -- 3
          refine Cd.seq ?_
          refine Cd.region ?_
          refine Ol.p (fdl fd_api_Func_1) ?_
          refine Ol.p (ld (v := .slice f.bA f.blocks.length f.bC) one_L_api_Block (Rd.blk (i := 0) rfl rfl)) ?_
          refine Ol.p mvi ?_
          refine Ol.p (ixn (ix := k) sl_L_api_Block (Som.slc hf.blocks (by omega))) ?_
          refine Ol.p (fdp fd_api_Block_0) ?_
          refine Ol.p (ld (v := .slice x.iA x.ins.length x.iC) one_L_api_Ins (Rd.slc hf.blocks (ins_slc hx))) ?_
          refine Ol.p mvi ?_
          refine Ol.p (ixn (ix := j) sl_L_api_Ins (Som.slc (hf.ins x hxm) (by omega))) ?_
          refine Ol.p (lds (es := i.cells) ag_api_Ins (hf.ins x hxm) i.len (fun q u hu => ins_cell hi hu)) ?_
          refine Ol.x (alc zr_api_Ins) ?_
          rintro _ _ ⟨g8, rfl, rfl⟩
          refine Ol.s (stw (vs := i.cells.toArray) sz_api_Ins rfl i.one (i := 0) rfl rfl) ?_
          refine Ol.nil ?_
          refine Cd.seq ?_
          refine Cd.region ?_
          refine Ol.p (fdl fd_api_Ins_0) ?_
          refine Ol.p (ld (v := .int .i64 i.op) one_api_Op (Rd.blk (i := 0) rfl rfl)) ?_
          refine Ol.p eqi ?_
          refine Ol.nil ?_
          refine Cd.cond rfl (fun h3 => ?_) (fun h3 => ?_)
          · have h3 : i.op = 13 := of_decide_eq_true h3
            have e3 : insMost (a', b') i = (a', max b' i.args.length) := by unfold insMost; rw [if_pos h3]
            rw [e3]
            refine Cd.region ?_
            refine Ol.p mvi ?_
            refine Ol.p (fdl fd_api_Ins_6) ?_
            refine Ol.p (ld (v := .slice i.aA i.args.length i.aC) one_L_int (Rd.blk (i := 0) rfl rfl)) ?_
            refine Ol.p (lens sl_L_int) ?_
            refine Ol.p maxi ?_
            refine Ol.p asi ?_
            refine Ol.keep (.sub (.cons _ (List.Sublist.refl _))) ?_
            refine Ol.nil ?_
            exact ⟨⟨rfl, rfl, congrArg (Value.int .i64) (max_val _ _), rfl, rfl, trivial⟩, rfl⟩
          have h3 : ¬ i.op = 13 := of_decide_eq_false h3
          obtain ⟨rl, hrl⟩ : ∃ rl, rl = readsL i := ⟨_, rfl⟩
          have e3 : insMost (a', b') i = (max a' rl.length, b') := by unfold insMost; rw [if_neg h3, hrl]
          rw [e3]
          refine Cd.region ?_
          refine Ol.p mvi ?_
          refine Ol.p (ldw (cs := i.cells.toArray) ag_api_Ins (i := 0) rfl rfl) ?_
          refine Ol.x (sp_call (vs := [i.val]) (R := NewL 3 1 rl.length (ints rl)) en_ref03_Reads (fun M w' hh => hrl ▸ ref03_Reads_ct ((hf.args x hxm i him).now hh) (by omega))) ?_
          rintro _ _ ⟨_, rfl, A56, c56, rfl, rfl⟩
          refine Ol.p (lens sl_L_int) ?_
          refine Ol.p maxi ?_
          refine Ol.p asi ?_
          refine Ol.keep (.sub (.cons _ (.cons _ (List.Sublist.refl _)))) ?_
          refine Ol.nil ?_
          exact ⟨⟨rfl, congrArg (Value.int .i64) (max_val _ _), rfl, rfl, rfl, trivial⟩, rfl⟩
        rintro σ' _ ⟨hs', rfl⟩
        refine Cd.has hs' ?_
        clear hs'
        refine Cd.region ?_
        refine Ol.p mvi ?_
        refine Ol.p addi ?_
        refine Ol.p asi ?_
        refine Ol.nil ?_
        refine ⟨x.ins.length - (j + 1), by omega, j + 1, _, _, rfl, by omega, ?_, ⟨rfl, rfl, rfl, rfl, rfl, trivial⟩, rfl⟩
        rw [take_snoc_ hi, List.foldl_append, ← hab']
        rfl
      have hge2 := ge_of h2
      rw [List.take_of_length_le hge2] at hab'
      refine Cd.exit (id := 2) ?_
      exact ⟨a', b', hab', ⟨rfl, rfl, rfl, rfl, trivial⟩, rfl⟩
    rintro σ' _ ⟨a', b', hab', hs', rfl⟩
    refine Cd.has hs' ?_
    clear hs'
    obtain ⟨nl, hnl⟩ : ∃ nl, nl = needsL x.term := ⟨_, rfl⟩
    have eb : blkMost (a, b) x = (max a' nl.length, b') := by
      unfold blkMost
      simp only
      rw [insMost_max, ← hab', hnl]
    refine Cd.region ?_
    refine Ol.p mvi ?_
    refine Ol.p (fdl fd_api_Func_1) ?_
    refine Ol.p (ld (v := .slice f.bA f.blocks.length f.bC) one_L_api_Block (Rd.blk (i := 0) rfl rfl)) ?_
    refine Ol.p mvi ?_
    refine Ol.p (ixn (ix := k) sl_L_api_Block (Som.slc hf.blocks (by omega))) ?_
    refine Ol.p (fdp fd_api_Block_1) ?_
    refine Ol.p (lds (es := x.term.cells) ag_api_Term hf.blocks rfl (tm_slc hx)) ?_
    refine Ol.x (sp_call (vs := [x.term.val]) (R := NewL 3 1 nl.length (ints nl)) en_ref03_Needs (fun M w' hh => hnl ▸ ref03_Needs_ct (t := x.term))) ?_
    rintro _ _ ⟨_, rfl, A66, c66, rfl, rfl⟩
    refine Ol.p (lens sl_L_int) ?_
    refine Ol.p maxi ?_
    refine Ol.p asi ?_
    refine Ol.keep (.sub (.cons _ (List.Sublist.refl _))) ?_
    refine Ol.nil ?_
    refine Cd.region ?_
    refine Ol.p mvi ?_
    refine Ol.p addi ?_
    refine Ol.p asi ?_
    refine Ol.nil ?_
    refine ⟨f.blocks.length - (k + 1), by omega, k + 1, max a' nl.length, b', rfl, by omega, ?_, ⟨rfl, congrArg (Value.int .i64) (max_val _ _), rfl, rfl, trivial⟩, rfl⟩
    rw [take_snoc_ hx, List.foldl_append, ← hab]
    exact eb.symm
  have hge := ge_of h
  rw [List.take_of_length_le hge, ← e] at hab
  refine Cd.exit (id := 0) ?_
  refine Cd.seq ?_
  refine Cd.region ?_
  refine Ol.p mvi ?_
  refine Ol.p mvi ?_
  refine Ol.p asi ?_
  refine Ol.p asi ?_
  refine Ol.nil ?_
  exact Cd.ret ⟨.tuple #[.int .i64 ((a : Nat) : Int), .int .i64 ((b : Nat) : Int)], ret2 rfl rfl rfl, [], Keep.nil, by rw [← hab], rfl⟩
end
section
theorem noteI_len (i : RIns) : (noteI i).length ≤ 11 := by
  unfold noteI
  have := readsL_ten i
  simp
  omega
theorem noteIs_len : ∀ l : List RIns, (l.flatMap noteI).length ≤ 11 * l.length
  | [] => by simp
  | i :: l => by
    have := noteI_len i
    have := noteIs_len l
    rw [List.flatMap_cons, List.length_append, List.length_cons]
    omega
theorem needsL_one (t : Tm) : (needsL t).length ≤ 1 := by
  rcases needs_one t with h | h <;> rw [h] <;> simp
theorem noteBs_len {m : Nat} : ∀ l : List RBlk, (∀ b ∈ l, b.ins.length ≤ m) → (l.flatMap noteB).length ≤ (11 * m + 1) * l.length
  | [], _ => by simp
  | b :: l, h => by
    have h1 := noteIs_len b.ins
    have h2 := h b (by simp)
    have h3 := needsL_one b.term
    have h4 := noteBs_len l fun x hx => h x (by simp [hx])
    rw [List.flatMap_cons, List.length_append, List.length_cons]
    unfold noteB
    rw [List.length_append]
    have h5 : 11 * b.ins.length ≤ 11 * m := Nat.mul_le_mul_left _ h2
    rw [Nat.mul_add]
    unfold noteB at h4
    omega
set_option maxHeartbeats 2000000 in
theorem ref03_all_ct {w : World} {f : RFun} (hf : FunAt w w.heap.size f) (hfit : Fit f) (h200 : f.blocks.length ≤ 200) (hp8 : f.params.length ≤ 8) (hi64 : ∀ b ∈ f.blocks, b.ins.length ≤ 64) : Ct Tryz.prog 91 #[f.val] w (NewL 3 1 (noteF f).length (ints (noteF f))) := by
  have hlen : ∀ k, ((f.blocks.take k).flatMap noteB).length ≤ 705 * 200 := fun k => by
    have := noteBs_len (m := 64) (f.blocks.take k) fun b hb => hi64 b (List.mem_of_mem_take hb)
    have h2 : (f.blocks.take k).length ≤ 200 := by rw [List.length_take]; omega
    omega
  refine Ct.mk Tryz.func91 rfl rfl ?_
  refine Cd.seq ?_
  refine Cd.region ?_
  refine Ol.x bxg ?_
  rintro _ _ ⟨g1, rfl, rfl⟩
  refine Ol.p ass ?_
  refine Ol.nil ?_
  refine Cd.seq ?_
  refine Cd.region ?_
  refine Ol.x (bsv [] sl_L_int zr_int (by simp)) ?_
  rintro _ _ ⟨gz, rfl, rfl⟩
  refine Ol.p (fdl fd_api_Func_0) ?_
  refine Ol.p (ld (v := .slice f.pA f.params.length f.pC) one_L_int (Rd.blk (i := 1) rfl rfl)) ?_
  refine Ol.x (apn (i := 0) (n := 0) (m := f.params.length) (xs := []) sl_L_int zr_int rfl (by decide) rfl (Src.slc hf.params) (ints_one _) (by unfold maxLen; omega) (by omega)) ?_
  rintro _ _ ⟨A0, c0, rfl, rfl⟩
  refine Ol.p ass ?_
  refine Ol.nil ?_
  refine Cd.seq ?_
  refine Cd.seq ?_
  refine Cd.region ?_
  refine Ol.p asi ?_
  refine Ol.nil ?_
  refine Cd.block ?_   -- 0
  refine Cd.loop (fun m σ L => ∃ (k : Nat) (A : Option Addr) (c : Nat) (nt : List Int), m = f.blocks.length - k ∧ k ≤ f.blocks.length ∧ nt = f.params ++ (f.blocks.take k).flatMap noteB ∧ Has σ [(1, .pointer (some ⟨g1, 0, none⟩)), (3, .slice A nt.length c), (4, .int .i64 k)] ∧ [row (.slice A nt.length c) 3 1 nt.length (ints nt), blk g1 (.cells f.cells.toArray 37)] = L) (n := f.blocks.length) ⟨0, A0, c0, f.params, rfl, Nat.zero_le _, by simp, ⟨rfl, congrArg (fun n => Value.slice A0 n c0) (Nat.zero_add _), rfl, trivial⟩, by rw [List.set_cons_zero, Nat.zero_add, List.nil_append]⟩ ?_
  rintro _ σ L ⟨k, A, c, nt, rfl, hk, hnt, hs, rfl⟩
  refine Cd.has hs ?_
  clear hs
  refine Cd.seq ?_
  refine Cd.seq ?_
  refine Cd.region ?_
  refine Ol.p mvi ?_
  refine Ol.p (fdl fd_api_Func_1) ?_
  refine Ol.p (ld (v := .slice f.bA f.blocks.length f.bC) one_L_api_Block (Rd.blk (i := 1) rfl rfl)) ?_
  refine Ol.p (lens sl_L_api_Block) ?_
  refine Ol.p lsi ?_
  refine Ol.nil ?_
  refine Cd.cond rfl (fun h => ?_) (fun h => ?_)
  · have hlt := lt_of h
    obtain ⟨x, hx⟩ : ∃ x, f.blocks[k]? = some x := ⟨_, List.getElem?_eq_getElem hlt⟩
    have hxm := List.mem_of_getElem? hx
    have hx64 := hi64 x hxm
    have hntl : nt.length ≤ 8 + 705 * 200 := by
      have := hlen k
      rw [hnt, List.length_append]; omega
    refine Cd.skip ?_
    refine Cd.seq ?_
    refine Cd.block ?_   -- 1
    refine Cd.mid (fun σ' L' => ∃ (A' : Option Addr) (c' : Nat) (nu : List Int), nu = nt ++ x.ins.flatMap noteI ∧ Has σ' [(1, .pointer (some ⟨g1, 0, none⟩)), (3, .slice A' nu.length c'), (4, .int .i64 k)] ∧ [row (.slice A' nu.length c') 3 1 nu.length (ints nu), blk g1 (.cells f.cells.toArray 37)] = L') ?_ ?_
    · refine Cd.seq ?_
      refine Cd.region ?_
      refine Ol.p asi ?_
      refine Ol.nil ?_
      refine Cd.block ?_   -- 2
      refine Cd.loop (fun m σ L => ∃ (j : Nat) (A' : Option Addr) (c' : Nat) (nu : List Int), m = x.ins.length - j ∧ j ≤ x.ins.length ∧ nu = nt ++ (x.ins.take j).flatMap noteI ∧ Has σ [(1, .pointer (some ⟨g1, 0, none⟩)), (3, .slice A' nu.length c'), (4, .int .i64 k), (5, .int .i64 j)] ∧ [row (.slice A' nu.length c') 3 1 nu.length (ints nu), blk g1 (.cells f.cells.toArray 37)] = L) (n := x.ins.length) ⟨0, A, c, nt, rfl, Nat.zero_le _, by simp, ⟨rfl, rfl, rfl, rfl, trivial⟩, rfl⟩ ?_
      rintro _ σ L ⟨j, A', c', nu, rfl, hj, hnu, hs, rfl⟩
      refine Cd.has hs ?_
      clear hs
      refine Cd.seq ?_
      refine Cd.seq ?_
      refine Cd.region ?_
      refine Ol.p mvi ?_
      refine Ol.p (fdl fd_api_Func_1) ?_
      refine Ol.p (ld (v := .slice f.bA f.blocks.length f.bC) one_L_api_Block (Rd.blk (i := 1) rfl rfl)) ?_
      refine Ol.p mvi ?_
      refine Ol.p (ixn (ix := k) sl_L_api_Block (Som.slc hf.blocks (by omega))) ?_
      refine Ol.p (fdp fd_api_Block_0) ?_
      refine Ol.p (ld (v := .slice x.iA x.ins.length x.iC) one_L_api_Ins (Rd.slc hf.blocks (ins_slc hx))) ?_
      refine Ol.p (lens sl_L_api_Ins) ?_
      refine Ol.p lsi ?_
      refine Ol.nil ?_
      refine Cd.cond rfl (fun h2 => ?_) (fun h2 => ?_)
      · have hlt2 := lt_of h2
        obtain ⟨i, hi⟩ : ∃ i, x.ins[j]? = some i := ⟨_, List.getElem?_eq_getElem hlt2⟩
        have him := List.mem_of_getElem? hi
        have hial := hfit.alen x hxm i him
        have hnul : nu.length ≤ 8 + 705 * 200 + 11 * 64 := by
          have h3 := noteIs_len (x.ins.take j)
          have h4 : (x.ins.take j).length ≤ 64 := by rw [List.length_take]; omega
          rw [hnu, List.length_append]; omega
        have hil := readsL_ten i
        obtain ⟨rl, hrl⟩ : ∃ rl, rl = readsL i := ⟨_, rfl⟩
        have hil' : rl.length ≤ 10 := hrl ▸ hil
        refine Cd.skip ?_
        refine Cd.seq ?_
        refine Cd.block ?_   -- 3
        refine Cd.seq ?_
        refine Cd.region ?_
        refine Ol.p (fdl fd_api_Func_1) ?_
        refine Ol.p (ld (v := .slice f.bA f.blocks.length f.bC) one_L_api_Block (Rd.blk (i := 1) rfl rfl)) ?_
        refine Ol.p mvi ?_
        refine Ol.p (ixn (ix := k) sl_L_api_Block (Som.slc hf.blocks (by omega))) ?_
        refine Ol.p (fdp fd_api_Block_0) ?_
        refine Ol.p (ld (v := .slice x.iA x.ins.length x.iC) one_L_api_Ins (Rd.slc hf.blocks (ins_slc hx))) ?_
        refine Ol.p mvi ?_
        refine Ol.p (ixn (ix := j) sl_L_api_Ins (Som.slc (hf.ins x hxm) (by omega))) ?_
        refine Ol.p (lds (es := i.cells) ag_api_Ins (hf.ins x hxm) i.len (fun q u hu => ins_cell hi hu)) ?_
        refine Ol.x (alc zr_api_Ins) ?_
        rintro _ _ ⟨g6, rfl, rfl⟩
        refine Ol.s (stw (vs := i.cells.toArray) sz_api_Ins rfl i.one (i := 0) rfl rfl) ?_
        refine Ol.nil ?_
        refine Cd.drawT (L0 := [blk g6 (.cells i.cells.toArray 25), blk g1 (.cells f.cells.toArray 37)]) mixed 8 (fun opNo => match opNo with | 2 => some (NewL 3 1 rl.length (ints rl)) | 3 => some (NewL 3 1 (nu.length + rl.length) (ints nu ++ ints rl)) | 5 => some (Is (.int .i64 (defI i))) | 6 => some (NewSv 3 1 1 1 [.int .i64 (defI i)]) | 7 => some (NewL 3 1 (nu.length + rl.length + 1) ((ints nu ++ ints rl) ++ [Value.int .i64 (defI i)])) | 1000 => some ((fun v R => v = undef ∧ R = [row (.slice A' nu.length c') 3 1 nu.length (ints nu)])) | _ => none) (fun opNo => match opNo with | 3 => [1000, 2] | 7 => [3, 6] | _ => []) (fun opNo => match opNo with | 3 => some 1000 | 7 => some 3 | _ => none) [1000] (fun tokNo => match tokNo with | 1000 => [row (.slice A' nu.length c') 3 1 nu.length (ints nu)] | _ => []) (by kernel_rfl) (perm_count fun _ x => by simp only [List.set_cons_zero, List.flatMap_cons, List.flatMap_nil, List.count_append, List.count_cons, List.count_nil]; omega) (by intro c hc; simp only [List.mem_cons, List.not_mem_nil, or_false] at hc; rcases hc with rfl <;> rfl) (by intro q V h; split at h <;> cases h; exact ⟨_, _, none, 0, rfl, rfl⟩; exact ⟨_, _, none, 0, rfl, rfl⟩; exact ⟨_, [], rfl, rfl⟩; exact ⟨_, _, 0, rfl, rfl⟩; exact ⟨_, _, none, 0, rfl, rfl⟩; exact ⟨_, _, rfl, rfl⟩) (fun u hu hu0 => ?_)
        refine WkT.p mvs ?_
        refine WkT.p (ldw (cs := i.cells.toArray) ag_api_Ins (i := 0) rfl rfl) ?_
        refine WkT.xn (V := NewL 3 1 rl.length (ints rl)) (l := []) (l2 := []) hu rfl rfl rfl (by rw [needs_none]; exact (sp_call (vs := [i.val]) en_ref03_Reads (fun M w' hh => hrl ▸ ref03_Reads_ct ((hf.args x hxm i him).now hh) (by omega)))) ?_
        rintro _ _ hu2 ⟨A40, c40, rfl, rfl⟩
        refine WkT.xn (V := NewL 3 1 (nu.length + rl.length) (ints nu ++ ints rl)) (l := [1000, 2]) (l2 := [2]) hu rfl rfl rfl (by rw [needs_cons (hu0 1000 (by simp)), needs_cons hu2, needs_none]; exact (Grow.adds (apn (i := 0) sl_L_int zr_int rfl (by decide) rfl (Src.row (i := 1) rfl (by simp [ints])) (ints_one _) (by unfold maxLen; omega) (by omega)))) ?_
        rintro _ _ hu3 ⟨A41, c41, rfl, rfl⟩
        refine WkT.p (ldw (cs := i.cells.toArray) ag_api_Ins (i := 0) rfl rfl) ?_
        refine WkT.xn (V := Is (.int .i64 (defI i))) (l := []) (l2 := []) hu rfl rfl rfl (by rw [needs_none]; exact (sp_call (vs := [i.val]) en_ref03_Defines (fun M w' hh => ref03_Defines_ct ((hf.args x hxm i him).now hh) (by omega)))) ?_
        rintro _ _ hu5 ⟨rfl, rfl⟩
        refine WkT.xn (V := NewSv 3 1 1 1 [.int .i64 (defI i)]) (l := []) (l2 := []) hu rfl rfl rfl (by rw [needs_none]; exact (NewS.adds (bsv [.int .i64 (defI i)] sl_L_int zr_int (by simp [Value.cells])))) ?_
        rintro _ _ hu6 ⟨g44, rfl, rfl⟩
        refine WkT.xn (V := NewL 3 1 (nu.length + rl.length + 1) ((ints nu ++ ints rl) ++ [Value.int .i64 (defI i)])) (l := [3, 6]) (l2 := [6]) hu rfl rfl rfl (by rw [needs_cons hu3, needs_cons hu6, needs_none]; exact (Grow.adds (apn (i := 0) (m := 1) sl_L_int zr_int rfl (by decide) rfl (Src.row (i := 1) rfl rfl) (by intro u hu; simp at hu; subst hu; rfl) (by unfold maxLen; omega) (by omega)))) ?_
        rintro _ _ hu7 ⟨A45, c45, rfl, rfl⟩
        refine WkT.nil ?_
        change Ol _ _ _ _ _ (needs u [7, 6, 5, 2] _)
        rw [needs_cons hu7, needs_cons hu6, needs_cons hu5, needs_cons hu2, needs_none]
        refine Ol.p ass ?_
        refine Ol.keep (.sub (.cons_cons _ (.cons _ (.cons _ (.cons _ (List.Sublist.refl _)))))) ?_
        refine Ol.nil ?_
        have e1 : nu.length + rl.length + 1 = (nt ++ (x.ins.take (j + 1)).flatMap noteI).length := by
          rw [take_snoc_ hi, List.flatMap_append, ← List.append_assoc, ← hnu, List.flatMap_singleton]
          unfold noteI
          simp [hrl]
          omega
        have e2 : (ints nu ++ ints rl) ++ [Value.int .i64 (defI i)] = ints (nt ++ (x.ins.take (j + 1)).flatMap noteI) := by
          rw [take_snoc_ hi, List.flatMap_append, ← List.append_assoc, ← hnu, List.flatMap_singleton]
          unfold noteI
          simp [ints, hrl]
        rw [e1, e2]
        refine Cd.region ?_
        refine Ol.p mvi ?_
        refine Ol.p addi ?_
        refine Ol.p asi ?_
        refine Ol.nil ?_
        exact ⟨x.ins.length - (j + 1), by omega, j + 1, _, _, _, rfl, by omega, rfl, ⟨rfl, rfl, rfl, rfl, trivial⟩, rfl⟩
      have hge2 := ge_of h2
      rw [List.take_of_length_le hge2] at hnu
      refine Cd.exit (id := 2) ?_
      exact ⟨A', c', nu, hnu, ⟨rfl, rfl, rfl, trivial⟩, rfl⟩
    rintro σ' _ ⟨A', c', nu, hnu, hs', rfl⟩
    refine Cd.has hs' ?_
    clear hs'
    have hnul : nu.length ≤ 8 + 705 * 200 + 11 * 64 := by
      have h3 := noteIs_len x.ins
      rw [hnu, List.length_append]; omega
    have hnd := needsL_one x.term
    obtain ⟨nl, hnl⟩ : ∃ nl, nl = needsL x.term := ⟨_, rfl⟩
    rw [← hnl] at hnd
    refine Cd.region ?_
    refine Ol.p mvs ?_
    refine Ol.p (fdl fd_api_Func_1) ?_
    refine Ol.p (ld (v := .slice f.bA f.blocks.length f.bC) one_L_api_Block (Rd.blk (i := 1) rfl rfl)) ?_
    refine Ol.p mvi ?_
    refine Ol.p (ixn (ix := k) sl_L_api_Block (Som.slc hf.blocks (by omega))) ?_
    refine Ol.p (fdp fd_api_Block_1) ?_
    refine Ol.p (lds (es := x.term.cells) ag_api_Term hf.blocks rfl (tm_slc hx)) ?_
    refine Ol.x (sp_call (vs := [x.term.val]) (R := NewL 3 1 nl.length (ints nl)) en_ref03_Needs (fun M w' hh => hnl ▸ ref03_Needs_ct (t := x.term))) ?_
    rintro _ _ ⟨_, rfl, A53, c53, rfl, rfl⟩
    refine Ol.x (apn (i := 1) sl_L_int zr_int rfl (by decide) rfl (Src.row (i := 0) rfl (by simp [ints])) (ints_one _) (by unfold maxLen; omega) (by omega)) ?_
    rintro _ _ ⟨A2, c2, rfl, rfl⟩
    refine Ol.p ass ?_
    refine Ol.keep (.sub (.cons _ (List.Sublist.refl _))) ?_
    refine Ol.nil ?_
    have e3 : f.params ++ (f.blocks.take (k + 1)).flatMap noteB = nu ++ nl := by
      rw [take_snoc_ hx, List.flatMap_append, ← List.append_assoc, ← hnt, List.flatMap_singleton, hnu, hnl]
      unfold noteB
      rw [List.append_assoc]
    have e1 : nu.length + nl.length = (f.params ++ (f.blocks.take (k + 1)).flatMap noteB).length := by rw [e3, List.length_append]
    have e2 : ints nu ++ ints nl = ints (f.params ++ (f.blocks.take (k + 1)).flatMap noteB) := by rw [e3]; simp [ints]
    rw [e1, e2]
    refine Cd.region ?_
    refine Ol.p mvi ?_
    refine Ol.p addi ?_
    refine Ol.p asi ?_
    refine Ol.nil ?_
    exact ⟨f.blocks.length - (k + 1), by omega, k + 1, _, _, _, rfl, by omega, rfl, ⟨rfl, rfl, rfl, trivial⟩, rfl⟩
  have hge := ge_of h
  rw [List.take_of_length_le hge] at hnt
  have hn : nt = noteF f := hnt
  rw [hn]
  refine Cd.exit (id := 0) ?_
  refine Cd.seq ?_
  refine Cd.region ?_
  refine Ol.p mvs ?_
  refine Ol.p ass ?_
  refine Ol.nil ?_
  exact Cd.ret ⟨.slice _ _ _, ret1 rfl rfl, _, .sub (.cons_cons _ (.cons _ .slnil)), _, _, rfl, rfl⟩
set_option maxHeartbeats 2000000 in
theorem ref03_Vars_ct {w : World} {f : RFun} (hf : FunAt w w.heap.size f) (hfit : Fit f) : Ct Tryz.prog 49 #[f.val] w (NewL 3 1 (varsF f).length (intsN (varsF f))) := by
  refine Ct.mk Tryz.func49 rfl rfl ?_
  refine Cd.seq ?_
  refine Cd.region ?_
  refine Ol.x bxg ?_
  rintro _ _ ⟨g1, rfl, rfl⟩
  refine Ol.p ass ?_
  refine Ol.nil ?_
  have ho : okF f = !(longF f || !wholeF f) := by unfold okF; cases longF f <;> cases wholeF f <;> rfl
  refine Cd.seq ?_
  refine Cd.mid (fun σ' L' => Has σ' [(1, .pointer (some ⟨g1, 0, none⟩)), (14, .bool (longF f || !wholeF f))] ∧ [blk g1 (.cells f.cells.toArray 37)] = L') ?_ ?_
  · cases q0 : longF f with
    | true =>
      refine Cd.region ?_
      refine Ol.p (ldw (cs := f.cells.toArray) ag_api_Func (i := 0) rfl rfl) ?_
      refine Ol.s (cl (v := .bool (longF f)) en_ref03_long (fun M w' hh => ref03_long_ct (hf.now hh) hfit)) ?_
      refine Ol.p mvb ?_
      refine Ol.gn q0 ?_
      refine Ol.gn q0 ?_
      refine Ol.gn q0 ?_
      refine Ol.p (pkTb q0) ?_
      refine Ol.nil ?_
      exact ⟨⟨rfl, rfl, trivial⟩, rfl⟩
    | false =>
      refine Cd.region ?_
      refine Ol.p (ldw (cs := f.cells.toArray) ag_api_Func (i := 0) rfl rfl) ?_
      refine Ol.s (cl (v := .bool (longF f)) en_ref03_long (fun M w' hh => ref03_long_ct (hf.now hh) hfit)) ?_
      refine Ol.p mvb ?_
      refine Ol.gp q0 (ldw (cs := f.cells.toArray) ag_api_Func (i := 0) rfl rfl) ?_
      refine Ol.gs q0 (cl (v := .bool (wholeF f)) en_ref03_shaped (fun M w' hh => ref03_shaped_ct (hf.now hh) hfit)) ?_
      refine Ol.gp q0 noti ?_
      refine Ol.p (pkFb q0) ?_
      refine Ol.nil ?_
      exact ⟨⟨rfl, rfl, trivial⟩, rfl⟩
  rintro σ' _ ⟨hs', rfl⟩
  refine Cd.has hs' ?_
  clear hs'
  refine Cd.cond rfl (fun h => ?_) (fun h => ?_)
  · rw [h] at ho
    have ho : okF f = false := ho
    refine Cd.seq ?_
    refine Cd.region ?_
    refine Ol.p ass ?_
    refine Ol.nil ?_
    have e : varsF f = [] := by unfold varsF; rw [ho]; rfl
    rw [e]
    refine Cd.nr 3 1 ?_
    exact Cd.ret ⟨.slice none 0 0, ret1 rfl rfl, _, .sub (.cons_cons _ (.cons _ .slnil)), none, 0, rfl, rfl⟩
  rw [h] at ho
  have ho : okF f = true := ho
  obtain ⟨hl, hw⟩ := ok_parts ho
  obtain ⟨h0, h200, hp8, hi64⟩ := long_parts hl
  clear h
  refine Cd.skip ?_
  obtain ⟨S, hS⟩ : ∃ S, S = putsV noS (noteF f) true := ⟨_, rfl⟩
  have e : varsF f = varsTo S 200 := by unfold varsF; rw [ho, if_pos rfl, hS]
  obtain ⟨nt, hnt⟩ : ∃ nt, nt = noteF f := ⟨_, rfl⟩
  have hSv : ∀ v : Nat, 1 ≤ v → S v = nt.any fun n => decide (n = (v : Int)) := fun v hv => by
    rw [Bool.eq_iff_iff, hS, putsV_iff, List.any_eq_true, ← hnt]
    simp only [noS, Bool.false_eq_true, false_or, decide_eq_true_eq]
    exact ⟨fun ⟨n, h1, h2⟩ => ⟨n, h1, by omega⟩, fun ⟨n, h1, h2⟩ => ⟨n, h1, by omega⟩⟩
  refine Cd.seq ?_
  refine Cd.region ?_
  refine Ol.p (ldw (cs := f.cells.toArray) ag_api_Func (i := 0) rfl rfl) ?_
  refine Ol.x (sp_call (vs := [f.val]) (R := NewL 3 1 nt.length (ints nt)) en_ref03_all (fun M w' hh => hnt ▸ ref03_all_ct (hf.now hh) hfit h200 hp8 hi64)) ?_
  rintro _ _ ⟨_, rfl, A16, c16, rfl, rfl⟩
  refine Ol.p ass ?_
  refine Ol.nil ?_
  have hntl : nt.length ≤ 8 + 705 * 200 := by
    have h3 := noteBs_len (m := 64) f.blocks hi64
    have h4 : (11 * 64 + 1) * f.blocks.length ≤ 705 * 200 := by omega
    rw [hnt]
    unfold noteF
    rw [List.length_append]; omega
  refine Cd.seq ?_
  refine Cd.region ?_
  refine Ol.p ass ?_
  refine Ol.nil ?_
  refine Cd.nr 3 1 ?_
  refine Cd.seq ?_
  refine Cd.seq ?_
  refine Cd.region ?_
  refine Ol.p asi ?_
  refine Ol.nil ?_
  refine Cd.block ?_   -- 0
  refine Cd.loop (fun m σ L => ∃ (k : Nat) (A : Option Addr) (c : Nat) (ou : List Nat), m = 200 - k ∧ k ≤ 200 ∧ ou = varsTo S k ∧ Has σ [(3, .slice A16 nt.length c16), (4, .slice A ou.length c), (5, .int .i64 ((k + 1 : Nat) : Int))] ∧ [row (.slice A ou.length c) 3 1 ou.length (intsN ou), row (.slice A16 nt.length c16) 3 1 nt.length (ints nt), blk g1 (.cells f.cells.toArray 37)] = L) (n := 200) ⟨0, none, 0, [], rfl, Nat.zero_le _, rfl, ⟨rfl, rfl, rfl, trivial⟩, rfl⟩ ?_
  rintro _ σ L ⟨k, A, c, ou, rfl, hk, hou, hs, rfl⟩
  refine Cd.has hs ?_
  clear hs
  have houl : ou.length ≤ 200 := by have := varsTo_len S k; rw [hou]; omega
  refine Cd.seq ?_
  refine Cd.seq ?_
  refine Cd.region ?_
  refine Ol.p mvi ?_
  refine Ol.p lei ?_
  refine Ol.nil ?_
  refine Cd.cond rfl (fun h => ?_) (fun h => ?_)
  · have hlt : k < 200 := by
      have h : decide (((k + 1 : Nat) : Int) ≤ 200) = true := h
      have := of_decide_eq_true h
      omega
    refine Cd.skip ?_
    refine Cd.mid (fun σ' L' => ∃ (A' : Option Addr) (c' : Nat) (ov : List Nat), ov = varsTo S (k + 1) ∧ Has σ' [(3, .slice A16 nt.length c16), (4, .slice A' ov.length c'), (5, .int .i64 ((k + 1 : Nat) : Int))] ∧ [row (.slice A' ov.length c') 3 1 ov.length (intsN ov), row (.slice A16 nt.length c16) 3 1 nt.length (ints nt), blk g1 (.cells f.cells.toArray 37)] = L') ?_ ?_
    · refine Cd.block ?_   -- 1
      refine Cd.seq ?_
      refine Cd.region ?_
      refine Ol.p asb ?_
      refine Ol.nil ?_
      refine Cd.mid (fun σ' L' => Has σ' [(3, .slice A16 nt.length c16), (4, .slice A ou.length c), (5, .int .i64 ((k + 1 : Nat) : Int)), (6, .bool (S (k + 1)))] ∧ [row (.slice A ou.length c) 3 1 ou.length (intsN ou), row (.slice A16 nt.length c16) 3 1 nt.length (ints nt), blk g1 (.cells f.cells.toArray 37)] = L') ?_ ?_
      · refine Cd.seq ?_
        refine Cd.region ?_
        refine Ol.p asi ?_
        refine Ol.nil ?_
        refine Cd.block ?_   -- 2
        refine Cd.loop (fun m σ L => ∃ j, m = nt.length - j ∧ j ≤ nt.length ∧ Has σ [(3, .slice A16 nt.length c16), (4, .slice A ou.length c), (5, .int .i64 ((k + 1 : Nat) : Int)), (6, .bool ((nt.take j).any fun n => decide (n = ((k + 1 : Nat) : Int)))), (7, .int .i64 j)] ∧ [row (.slice A ou.length c) 3 1 ou.length (intsN ou), row (.slice A16 nt.length c16) 3 1 nt.length (ints nt), blk g1 (.cells f.cells.toArray 37)] = L) (n := nt.length) ⟨0, rfl, Nat.zero_le _, ⟨rfl, rfl, rfl, rfl, rfl, trivial⟩, rfl⟩ ?_
        rintro _ σ L ⟨j, rfl, hj, hs, rfl⟩
        refine Cd.has hs ?_
        clear hs
        refine Cd.seq ?_
        refine Cd.seq ?_
        refine Cd.region ?_
        refine Ol.p mvi ?_
        refine Ol.p mvs ?_
        refine Ol.p (lens sl_L_int) ?_
        refine Ol.p lsi ?_
        refine Ol.nil ?_
        refine Cd.cond rfl (fun h2 => ?_) (fun h2 => ?_)
        · have hlt2 := lt_of h2
          obtain ⟨n, hn⟩ : ∃ n, nt[j]? = some n := ⟨_, List.getElem?_eq_getElem hlt2⟩
          have hany : ((nt.take (j + 1)).any fun n => decide (n = ((k + 1 : Nat) : Int))) = (((nt.take j).any fun n => decide (n = ((k + 1 : Nat) : Int))) || decide (n = ((k + 1 : Nat) : Int))) := by
            rw [take_snoc_ hn, List.any_append]
            simp
          refine Cd.skip ?_
          refine Cd.seq ?_
          refine Cd.block ?_   -- 3
          cases q1 : ((nt.take j).any fun n => decide (n = ((k + 1 : Nat) : Int))) with
          | true =>
            refine Cd.region ?_
            refine Ol.p mvb ?_
            refine Ol.p mvb ?_
            refine Ol.gn rfl ?_
            refine Ol.gn rfl ?_
            refine Ol.gn rfl ?_
            refine Ol.gn rfl ?_
            refine Ol.gn rfl ?_
            refine Ol.gn rfl ?_
            refine Ol.p (pkTb rfl) ?_
            refine Ol.p asb ?_
            refine Ol.nil ?_
            refine Cd.region ?_
            refine Ol.p mvi ?_
            refine Ol.p addi ?_
            refine Ol.p asi ?_
            refine Ol.nil ?_
            exact ⟨nt.length - (j + 1), by omega, j + 1, rfl, by omega, ⟨rfl, rfl, rfl, congrArg Value.bool (by rw [hany, q1]; rfl), rfl, trivial⟩, rfl⟩
          | false =>
            refine Cd.region ?_
            refine Ol.p mvb ?_
            refine Ol.p mvb ?_
            refine Ol.gp rfl mvs ?_
            refine Ol.gp rfl mvi ?_
            refine Ol.gp rfl (ixn (ix := j) sl_L_int (Som.row (i := 1) rfl (by omega))) ?_
            refine Ol.gp rfl (ld (v := .int .i64 n) one_int (Rd.row (i := 1) rfl (ints_at1 hn))) ?_
            refine Ol.gp rfl mvi ?_
            refine Ol.gp rfl eqi ?_
            refine Ol.p (pkFb rfl) ?_
            refine Ol.p asb ?_
            refine Ol.nil ?_
            refine Cd.region ?_
            refine Ol.p mvi ?_
            refine Ol.p addi ?_
            refine Ol.p asi ?_
            refine Ol.nil ?_
            exact ⟨nt.length - (j + 1), by omega, j + 1, rfl, by omega, ⟨rfl, rfl, rfl, congrArg Value.bool (by rw [hany, q1]; rfl), rfl, trivial⟩, rfl⟩
        have hge2 := ge_of h2
        rw [List.take_of_length_le hge2, ← hSv (k + 1) (by omega)]
        refine Cd.exit (id := 2) ?_
        exact ⟨⟨rfl, rfl, rfl, rfl, trivial⟩, rfl⟩
      rintro σ' _ ⟨hs', rfl⟩
      refine Cd.has hs' ?_
      clear hs'
      have hv := varsTo_succ S k
      refine Cd.seq ?_
      refine Cd.region ?_
      refine Ol.p mvb ?_
      refine Ol.nil ?_
      refine Cd.cond rfl (fun h3 => ?_) (fun h3 => ?_)
      · rw [h3, if_pos rfl, ← hou] at hv
        refine Cd.region ?_
        refine Ol.p mvs ?_
        refine Ol.p mvi ?_
        refine Ol.x (bsv [.int .i64 ((k + 1 : Nat) : Int)] sl_L_int zr_int (by simp [Value.cells])) ?_
        rintro _ _ ⟨g39, rfl, rfl⟩
        refine Ol.x (apn (i := 1) (m := 1) sl_L_int zr_int rfl (by decide) rfl (Src.row (i := 0) rfl rfl) (by intro u hu; simp at hu; subst hu; rfl) (by unfold maxLen; omega) (by omega)) ?_
        rintro _ _ ⟨A', c', rfl, rfl⟩
        refine Ol.p ass ?_
        refine Ol.keep (.sub (.cons _ (List.Sublist.refl _))) ?_
        refine Ol.nil ?_
        have e1 : ou.length + 1 = (varsTo S (k + 1)).length := by rw [hv]; simp
        have e2 : intsN ou ++ [Value.int .i64 ((k + 1 : Nat) : Int)] = intsN (varsTo S (k + 1)) := by rw [hv]; simp [intsN]
        rw [e1, e2]
        exact ⟨A', c', _, rfl, ⟨rfl, rfl, rfl, trivial⟩, rfl⟩
      rw [h3, if_neg (by decide), List.append_nil, ← hou] at hv
      refine Cd.skip ?_
      exact ⟨A, c, ou, hv.symm, ⟨rfl, rfl, rfl, trivial⟩, rfl⟩
    rintro σ' _ ⟨A', c', ov, hov, hs', rfl⟩
    refine Cd.has hs' ?_
    clear hs'
    refine Cd.region ?_
    refine Ol.p mvi ?_
    refine Ol.p addi ?_
    refine Ol.p asi ?_
    refine Ol.nil ?_
    exact ⟨200 - (k + 1), by omega, k + 1, A', c', ov, rfl, by omega, hov, ⟨rfl, rfl, rfl, trivial⟩, rfl⟩
  have hge : k = 200 := by
    have h : decide (((k + 1 : Nat) : Int) ≤ 200) = false := h
    have := of_decide_eq_false h
    omega
  rw [hge, ← e] at hou
  rw [hou]
  refine Cd.exit (id := 0) ?_
  refine Cd.seq ?_
  refine Cd.region ?_
  refine Ol.p mvs ?_
  refine Ol.p ass ?_
  refine Ol.nil ?_
  exact Cd.ret ⟨.slice _ _ _, ret1 rfl rfl, _, .sub (.cons_cons _ (.cons _ (.cons _ .slnil))), _, _, rfl, rfl⟩
end
end Go.Proofs.YtcojedoejpcolaaGreat

