/- IrEnds: for every input that can be read, the law IrEnds returns true and its arguments read as before. Conditions: the row. -/
/- Part 6 of the proof of IrEndsC: the texts IrTells, IrLit, IrEnds, RowSt, IrLong, IrEndsC, one behind the other. -/
import Derived.Test.YtcojedoejpcolaaGreatIrEndsCM5
/- The law 03: IrTells, walked. -/
namespace Go.Proofs.YtcojedoejpcolaaGreat
set_option linter.unusedVariables false
open Go Go.RowKit
set_option maxRecDepth 100000

theorem z8_arg : ∀ {l : List RIns} {i : RIns}, i ∈ l → i.args.length ≤ argSum l
  | [], _, h => by cases h
  | a :: l, i, h => by
    have e : argSum (a :: l) = a.args.length + argSum l := by simp [argSum]
    rcases List.mem_cons.1 h with rfl | h
    · omega
    · have := z8_arg h; omega
theorem z8_blk : ∀ {l : List RBlk} {b : RBlk}, b ∈ l → bsz b ≤ blocksSz l
  | [], _, h => by cases h
  | a :: l, b, h => by
    have e : blocksSz (a :: l) = bsz a + blocksSz l := by simp [blocksSz]
    rcases List.mem_cons.1 h with rfl | h
    · omega
    · have := z8_blk h; omega
theorem z8_len : ∀ l : List RBlk, l.length ≤ blocksSz l
  | [] => by simp
  | a :: l => by
    have e : blocksSz (a :: l) = bsz a + blocksSz l := by simp [blocksSz]
    have := z8_len l
    have h2 : 1 ≤ bsz a := by unfold bsz; omega
    simp only [List.length_cons]; omega
theorem z8_a {f : RFun} (h : f.sz ≤ 700) : ∀ b ∈ f.blocks, ∀ i ∈ b.ins, i.args.length < 2 ^ 40 := fun b hb i hi => by
  have h0 : f.params.length + blocksSz f.blocks ≤ 700 := h
  have := z8_blk hb
  have h3 := z8_arg hi
  unfold bsz at this; omega
theorem z8_in {w : World} {f : RFun} (hf : FunAt w w.heap.size f) (h : f.sz ≤ 700) : BlksIn w w.heap.size f.bA f.blocks := by
  have h0 : f.params.length + blocksSz f.blocks ≤ 700 := h
  have h1 := z8_len f.blocks
  refine ⟨hf.blocks, hf.ins, hf.args, by omega, fun b hb => ?_, fun b hb i hi => ?_⟩
  · have := z8_blk hb
    unfold bsz at this; omega
  · have := z8_a h b hb i hi
    omega
section
set_option maxHeartbeats 4000000 in
theorem law03_IrTells_ct {w : World} {f : RFun} (hf : FunAt w w.heap.size f) (hfit : Fit f) : Ct Tryz.prog 8 #[f.val] w (Is (.bool true)) := by
  refine Ct.mk Tryz.func8 rfl rfl ?_
  refine Cd.seq ?_
  refine Cd.region ?_
  refine Ol.x bxg ?_
  rintro _ _ ⟨g1, rfl, rfl⟩
  refine Ol.p asb ?_
  refine Ol.nil ?_
  refine Cd.seq ?_
  refine Cd.seq ?_
  refine Cd.region ?_
  refine Ol.p (ldw (cs := f.cells.toArray) ag_api_Func (i := 0) rfl rfl) ?_
  refine Ol.x (sp_call (vs := [f.val, .int .i64 700]) en_kit_FuncOf (fun M w' hh => kit_FuncOf_ct (hf.now hh) hfit (most := 700) (by decide))) ?_
  rintro _ _ ⟨_, rfl, N, rfl, hN1, hN2, rfl⟩
  refine Ol.p gti ?_
  refine Ol.nil ?_
  refine Cd.cond rfl (fun h => ?_) (fun h => ?_)
  · refine Cd.seq ?_
    refine Cd.region ?_
    refine Ol.s (cl en_law03_awake (fun M w' hh => law03_awake_ct)) ?_
    refine Ol.p asb ?_
    refine Ol.nil ?_
    exact Cd.ret ⟨.bool true, ret1 rfl rfl, [], Keep.nil, rfl, rfl⟩
  have hsz : f.sz ≤ 700 := by
    have h : decide ((700 : Int) < (N : Int)) = false := h
    have := of_decide_eq_false h
    have h2 := hN1 (by omega)
    omega
  have hpl : f.params.length < 2 ^ 40 := by
    have h0 : f.params.length + blocksSz f.blocks ≤ 700 := hsz
    omega
  clear h hN1 hN2
  refine Cd.skip ?_
  refine Cd.seq ?_
  refine Cd.region ?_
  refine Ol.p (ldw (cs := f.cells.toArray) ag_api_Func (i := 0) rfl rfl) ?_
  refine Ol.x (sp_call (vs := [f.val]) en_kit_LentFunc (fun M w' hh => kit_LentFunc_ct (hf.now hh) hpl ((z8_in hf hsz).now hh) (z8_a hsz))) ?_
  rintro _ _ ⟨X, rfl, g, hb, rfl, hX⟩
  have hfc : FitC g := FitC.same hfit.c hb
  refine Ol.keep (L' := blk g1 (.cells f.cells.toArray 37) :: funLent g) ⟨[], by rw [List.append_nil]; exact List.perm_append_comm.trans (hX.cons _)⟩ ?_
  refine Ol.x (alc zr_api_Func) ?_
  rintro _ _ ⟨g3, rfl, rfl⟩
  refine Ol.s (stw (vs := g.cells.toArray) sz_api_Func rfl (by intro u hu; simp [RFun.cells] at hu; rcases hu with rfl | rfl <;> rfl) (i := 0) rfl rfl) ?_
  refine Ol.nil ?_
  have hsub : ∀ r ∈ funLent g, r ∈ blk g3 (.cells g.cells.toArray 37) :: blk g1 (.cells f.cells.toArray 37) :: funLent g := fun r hr => List.mem_cons_of_mem _ (List.mem_cons_of_mem _ hr)
  have e1 : mostF g = mostF f := by rw [← mostF_bare g, hb, mostF_bare]
  have e2 : varsF g = varsF f := by rw [← varsF_bare g, hb, varsF_bare]
  have e3 : sizeF g = sizeF f := by
    rw [← sizeF_bare g, hb, sizeF_bare]
  have e4 : rightF g = rightF f := rightF_same hb
  obtain ⟨vl, hvl, hvn⟩ : ∃ vl : List Int, intsN (varsF f) = ints vl ∧ (varsF f).length = vl.length := ⟨(varsF f).map fun (n : Nat) => (n : Int), by simp [ints, intsN], by simp⟩
  have hvb : vl.length ≤ 200 := by
    rw [← hvn]
    unfold varsF
    split
    · exact varsTo_len _ _
    · exact Nat.zero_le _
  obtain ⟨ma, hma⟩ : ∃ ma, ma = ((mostF f).1 : Int) := ⟨_, rfl⟩
  obtain ⟨mb, hmb⟩ : ∃ mb, mb = ((mostF f).2 : Int) := ⟨_, rfl⟩
  have c1 : ∀ w', FunAt w' w'.heap.size g → Fit g → Ct Tryz.prog 44 #[g.val] w' (Is (.tuple #[.int .i64 ma, .int .i64 mb])) := fun w' h1 h2 => by
    have q := ir_Most_ct h1 h2
    rw [e1, ← hma, ← hmb] at q
    exact q
  have c2 : ∀ w', FunAt w' w'.heap.size f → Ct Tryz.prog 45 #[f.val] w' (Is (.tuple #[.int .i64 ma, .int .i64 mb])) := fun w' h1 => by
    have q := ref03_Most_ct h1 hfit
    rw [← hma, ← hmb] at q
    exact q
  have c3 : ∀ w', FunAt w' w'.heap.size g → Fit g → Ct Tryz.prog 48 #[g.val] w' (NewL 3 1 vl.length (ints vl)) := fun w' h1 h2 => by
    have q := ir_Vars_ct h1 h2
    rw [e2, hvl, hvn] at q
    exact q
  have c4 : ∀ w', FunAt w' w'.heap.size f → Ct Tryz.prog 49 #[f.val] w' (NewL 3 1 vl.length (ints vl)) := fun w' h1 => by
    have q := ref03_Vars_ct h1 hfit
    rw [hvl, hvn] at q
    exact q
  obtain ⟨rt, hrt⟩ : ∃ rt, rt = rightF f := ⟨_, rfl⟩
  obtain ⟨sz, hsz2⟩ : ∃ sz, sz = (sizeF f : Int) := ⟨_, rfl⟩
  have c5 : ∀ w', FunAt w' w'.heap.size g → Fit g → Ct Tryz.prog 46 #[g.val] w' (Is (.int .i64 rt)) := fun w' h1 h2 => by
    rw [hrt, ← e4]; exact ir_Right_ct h1 h2
  have c6 : ∀ w', FunAt w' w'.heap.size f → Ct Tryz.prog 47 #[f.val] w' (Is (.int .i64 rt)) := fun w' h1 => by
    rw [hrt]; exact ref03_Right_ct h1 hfit
  have c7 : ∀ w', FunAt w' w'.heap.size g → Fit g → Ct Tryz.prog 50 #[g.val] w' (Is (.int .i64 sz)) := fun w' h1 h2 => by
    rw [hsz2, ← e3]; exact ir_Size_ct h1 h2
  have c8 : ∀ w', FunAt w' w'.heap.size f → Ct Tryz.prog 51 #[f.val] w' (Is (.int .i64 sz)) := fun w' h1 => by
    rw [hsz2]; exact ref03_Size_ct h1 hfit
  refine Cd.seq ?_
  refine Cd.region ?_
  refine Ol.p (ldw (cs := g.cells.toArray) ag_api_Func (i := 0) rfl rfl) ?_
  refine Ol.s (cl (v := .tuple #[.int .i64 ma, .int .i64 mb]) en_ir_Most (fun M w' hh => c1 w' (LentAt.own hh hsub).fun_ ((LentAt.own hh hsub).fit hfc))) ?_
  refine Ol.p mvt ?_
  refine Ol.p extv ?_
  refine Ol.p extv ?_
  refine Ol.p asi ?_
  refine Ol.p asi ?_
  refine Ol.nil ?_
  refine Cd.seq ?_
  refine Cd.region ?_
  refine Ol.p (ldw (cs := f.cells.toArray) ag_api_Func (i := 1) rfl rfl) ?_
  refine Ol.s (cl (v := .tuple #[.int .i64 ma, .int .i64 mb]) en_ref03_Most (fun M w' hh => c2 w' (hf.now hh))) ?_
  refine Ol.p mvt ?_
  refine Ol.p extv ?_
  refine Ol.p extv ?_
  refine Ol.p asi ?_
  refine Ol.p asi ?_
  refine Ol.nil ?_
  have q5 : decide (rt = rt) = true := by simp
  have q12 : decide (vl = vl) = true := by simp
  have q17 : decide (ma = ma) = true := by simp
  have q22 : decide (mb = mb) = true := by simp
  have q29 : decide (sz = sz) = true := by simp
  refine Cd.seq ?_
  refine Cd.draw mixed 38 (fun opNo => match opNo with | 1 => some (Is (.int .i64 rt)) | 3 => some (Is (.int .i64 rt)) | 7 => some (NewL 3 1 vl.length (ints vl)) | 9 => some (NewL 3 1 vl.length (ints vl)) | 10 => some (Is (.bool (decide (vl = vl)))) | 24 => some (Is (.int .i64 sz)) | 26 => some (Is (.int .i64 sz)) | 32 => some (Is (.bool true)) | 35 => some (Is (.bool true)) | _ => none) (fun opNo => match opNo with | 10 => [7, 9] | _ => []) (by kernel_rfl) (by intro q V h; split at h <;> cases h; exact ⟨_, [], rfl, rfl⟩; exact ⟨_, [], rfl, rfl⟩; exact ⟨_, _, none, 0, rfl, rfl⟩; exact ⟨_, _, none, 0, rfl, rfl⟩; exact ⟨_, [], rfl, rfl⟩; exact ⟨_, [], rfl, rfl⟩; exact ⟨_, [], rfl, rfl⟩; exact ⟨_, [], rfl, rfl⟩; exact ⟨_, [], rfl, rfl⟩) (fun u hu => ?_)
  refine Wk.p (ldw (cs := g.cells.toArray) ag_api_Func (i := 0) rfl rfl) ?_
  refine Wk.x (V := Is (.int .i64 rt)) hu (sp_call (vs := [g.val]) en_ir_Right (fun M w' hh => c5 w' (LentAt.own hh hsub).fun_ ((LentAt.own hh hsub).fit hfc))) ?_
  rintro _ _ hu1 ⟨rfl, rfl⟩
  refine Wk.p (ldw (cs := f.cells.toArray) ag_api_Func (i := 1) rfl rfl) ?_
  refine Wk.x (V := Is (.int .i64 rt)) hu (sp_call (vs := [f.val]) en_ref03_Right (fun M w' hh => c6 w' (hf.now hh))) ?_
  rintro _ _ hu3 ⟨rfl, rfl⟩
  refine Wk.p eqi ?_
  refine Wk.p mvb ?_
  refine Wk.gp q5 (ldw (cs := g.cells.toArray) ag_api_Func (i := 0) rfl rfl) ?_
  refine Wk.gx (V := NewL 3 1 vl.length (ints vl)) hu q5 (sp_call (vs := [g.val]) en_ir_Vars (fun M w' hh => c3 w' (LentAt.own hh hsub).fun_ ((LentAt.own hh hsub).fit hfc))) ?_
  rintro _ _ hu7 ⟨A31, c31, rfl, rfl⟩
  refine Wk.gp q5 (ldw (cs := f.cells.toArray) ag_api_Func (i := 1) rfl rfl) ?_
  refine Wk.gx (V := NewL 3 1 vl.length (ints vl)) hu q5 (sp_call (vs := [f.val]) en_ref03_Vars (fun M w' hh => c4 w' (hf.now hh))) ?_
  rintro _ _ hu9 ⟨A33, c33, rfl, rfl⟩
  refine Wk.gxn (V := Is (.bool (decide (vl = vl)))) hu q5 (l := [7, 9]) rfl (by simp) (by rw [needs_cons hu7, needs_cons hu9, needs_none]; exact (sp_call en_kit_SameInts (fun M w' hh => kit_SameInts_ct (a := vl) (b := vl) (Reads.row hh (i := 0) rfl) (Reads.row hh (i := 1) rfl) (by omega) (by omega)))) ?_
  rintro _ _ hu10 ⟨rfl, rfl⟩
  refine Wk.p (pkTb q5) ?_
  refine Wk.p mvb ?_
  refine Wk.gp q12 mvi ?_
  refine Wk.gp q12 mvi ?_
  refine Wk.gp q12 eqi ?_
  refine Wk.p (pkTb q12) ?_
  refine Wk.p mvb ?_
  refine Wk.gp q17 mvi ?_
  refine Wk.gp q17 mvi ?_
  refine Wk.gp q17 eqi ?_
  refine Wk.p (pkTb q17) ?_
  refine Wk.p mvb ?_
  refine Wk.gp q22 (ldw (cs := g.cells.toArray) ag_api_Func (i := 0) rfl rfl) ?_
  refine Wk.gx (V := Is (.int .i64 sz)) hu q22 (sp_call (vs := [g.val]) en_ir_Size (fun M w' hh => c7 w' (LentAt.own hh hsub).fun_ ((LentAt.own hh hsub).fit hfc))) ?_
  rintro _ _ hu24 ⟨rfl, rfl⟩
  refine Wk.gp q22 (ldw (cs := f.cells.toArray) ag_api_Func (i := 1) rfl rfl) ?_
  refine Wk.gx (V := Is (.int .i64 sz)) hu q22 (sp_call (vs := [f.val]) en_ref03_Size (fun M w' hh => c8 w' (hf.now hh))) ?_
  rintro _ _ hu26 ⟨rfl, rfl⟩
  refine Wk.gp q22 eqi ?_
  refine Wk.p (pkTb q22) ?_
  refine Wk.p mvb ?_
  refine Wk.gp q29 (ldw (cs := g.cells.toArray) ag_api_Func (i := 0) rfl rfl) ?_
  refine Wk.gp q29 (ldw (cs := f.cells.toArray) ag_api_Func (i := 1) rfl rfl) ?_
  refine Wk.gx (V := Is (.bool true)) hu q29 (sp_call (vs := [g.val, f.val]) en_kit_KeptFunc (fun M w' hh => kit_KeptFunc_ct hb (LentAt.own hh hsub) (hf.now hh) hfc hfit.c hpl ((z8_in hf hsz).now hh) (z8_a hsz))) ?_
  rintro _ _ hu32 ⟨rfl, rfl⟩
  refine Wk.p (pkTb q29) ?_
  refine Wk.p mvb ?_
  refine Wk.gx (V := Is (.bool true)) hu rfl (sp_call en_law03_awake (fun M w' hh => law03_awake_ct)) ?_
  rintro _ _ hu35 ⟨rfl, rfl⟩
  refine Wk.p (pkTb rfl) ?_
  refine Wk.p asb ?_
  refine Wk.nil ?_
  rw [needs_cons hu35, needs_cons hu32, needs_cons hu26, needs_cons hu24, needs_cons hu10, needs_cons hu9, needs_cons hu7, needs_cons hu3, needs_cons hu1, needs_none]
  refine Ol.nil ?_
  exact Cd.ret ⟨.bool true, ret1 rfl rfl, [], Keep.nil, rfl, rfl⟩
end
end Go.Proofs.YtcojedoejpcolaaGreat

/- Functions written out by hand: where they lie, that they are fit. -/
namespace Go.Proofs.YtcojedoejpcolaaGreat
set_option linter.unusedVariables false
open Go Go.RowKit
set_option maxRecDepth 100000
def I1 (v : Int) : RIns := ⟨1, v, 0, 0, 0, 0, none, 0, [], 0⟩
def IRn (n : Int) : Prop := -9223372036854775808 ≤ n ∧ n ≤ 9223372036854775807
/-- A block of constants. -/
def OKB (b : RBlk) : Prop := (∀ n ∈ [b.term.kind, b.term.a, b.term.t0, b.term.t1], IRn n) ∧ b.ins.length < 2 ^ 50 ∧ b.ins.length ≤ b.iC ∧ ∀ i ∈ b.ins, ∃ v, i = I1 v ∧ IRn v
theorem OKB.fit {f : RFun} (h : ∀ b ∈ f.blocks, OKB b) (hp : ∀ n ∈ f.params, IRn n) (hpl : f.params.length < 2 ^ 50) (hbl : f.blocks.length < 2 ^ 50) (hpc : f.params.length ≤ f.pC) (hbc : f.blocks.length ≤ f.bC) : Fit f := by
  refine ⟨hp, hpl, hbl, hpc, hbc, fun b hb => (h b hb).2.1, fun b hb => (h b hb).2.2.1, fun b hb => (h b hb).1, fun b hb i hi => ?_, fun b hb i hi => ?_, fun b hb i hi => ?_, fun b hb i hi => ?_⟩
  · obtain ⟨v, rfl, h1, h2⟩ := (h b hb).2.2.2 i hi
    intro n hn
    simp [I1] at hn
    rcases hn with rfl | rfl | rfl <;> omega
  · obtain ⟨v, rfl, _⟩ := (h b hb).2.2.2 i hi
    show (0 : Nat) < 2 ^ 50
    decide
  · obtain ⟨v, rfl, _⟩ := (h b hb).2.2.2 i hi
    exact Nat.le_refl _
  · obtain ⟨v, rfl, _⟩ := (h b hb).2.2.2 i hi
    intro n hn
    cases hn
theorem OKB.fun_ {w : World} {B : Nat} {f : RFun} (h : ∀ b ∈ f.blocks, OKB b) (h1 : Reads w B 1 f.pA f.params.length (ints f.params)) (h2 : Reads w B 5 f.bA f.blocks.length (f.blocks.flatMap RBlk.cells)) (h3 : ∀ b ∈ f.blocks, Reads w B 8 b.iA b.ins.length (b.ins.flatMap RIns.cells)) : FunAt w B f :=
  ⟨h1, h2, h3, fun b hb i hi => by
    obtain ⟨v, rfl, _⟩ := (h b hb).2.2.2 i hi
    exact reads_none_⟩
def TB0 (n : Nat) : Tm := ⟨2, 1 + (n : Int).tmod 3, 1, 1 + (IntKind.i64.wrap ((n : Int).tdiv 9)).tmod 3⟩
def TB1 (n : Nat) : Tm := ⟨1 + (n : Int).tmod 4, (n : Int).tmod 3, (n : Int).tmod 5 - 1, (IntKind.i64.wrap ((n : Int).tdiv 5)).tmod 4⟩
def TB2 (n : Nat) : Tm := ⟨3, (n : Int).tmod 4, 0, 0⟩
def TB3 : Tm := ⟨1, 0, 2, 0⟩
def IB0 (n : Nat) : RIns := I1 (1 + (IntKind.i64.wrap ((n : Int).tdiv 2)).tmod 2)
def IB1 (n : Nat) : RIns := I1 (1 + (n : Int).tmod 2)
def IB3 (n : Nat) : RIns := I1 ((n : Int).tmod 4)
def BK (g : Nat) (i : RIns) (t : Tm) : RBlk := ⟨some ⟨g, 0, none⟩, 1, [i], t⟩
def BN (t : Tm) : RBlk := ⟨none, 0, [], t⟩
def L03 (n g0 g1 g3 : Nat) : List RBlk := [BK g0 (IB0 n) (TB0 n), BK g1 (IB1 n) (TB1 n), BN (TB2 n), BK g3 (IB3 n) TB3]
def FL03 (gp gb : Nat) (ps : List Int) (bs : List RBlk) : RFun := ⟨some ⟨gp, 0, none⟩, ps.length, ps, some ⟨gb, 0, none⟩, 4, bs⟩
theorem tm_bd {a b : Int} (hb : 0 < b) : -b < a.tmod b ∧ a.tmod b < b := ⟨Int.lt_tmod_of_pos a hb, Int.tmod_lt_of_pos a hb⟩
theorem L03_ok {n g0 g1 g3 : Nat} : ∀ b ∈ L03 n g0 g1 g3, OKB b := by
  have a2 := tm_bd (a := (n : Int)) (b := 2) (by omega)
  have a3 := tm_bd (a := (n : Int)) (b := 3) (by omega)
  have a4 := tm_bd (a := (n : Int)) (b := 4) (by omega)
  have a5 := tm_bd (a := (n : Int)) (b := 5) (by omega)
  have c9 := tm_bd (a := IntKind.i64.wrap ((n : Int).tdiv 9)) (b := 3) (by omega)
  have c5 := tm_bd (a := IntKind.i64.wrap ((n : Int).tdiv 5)) (b := 4) (by omega)
  have c2 := tm_bd (a := IntKind.i64.wrap ((n : Int).tdiv 2)) (b := 2) (by omega)
  intro b hb
  simp only [L03, List.mem_cons, List.not_mem_nil, or_false] at hb
  rcases hb with rfl | rfl | rfl | rfl
  · refine ⟨fun x hx => ?_, by show (1 : Nat) < 2 ^ 50; decide, Nat.le_refl _, fun i hi => ?_⟩
    · simp only [BK, TB0, List.mem_cons, List.not_mem_nil, or_false] at hx
      unfold IRn
      rcases hx with rfl | rfl | rfl | rfl <;> omega
    · simp only [BK, List.mem_cons, List.not_mem_nil, or_false] at hi
      exact ⟨_, hi, by unfold IRn; omega⟩
  · refine ⟨fun x hx => ?_, by show (1 : Nat) < 2 ^ 50; decide, Nat.le_refl _, fun i hi => ?_⟩
    · simp only [BK, TB1, List.mem_cons, List.not_mem_nil, or_false] at hx
      unfold IRn
      rcases hx with rfl | rfl | rfl | rfl <;> omega
    · simp only [BK, List.mem_cons, List.not_mem_nil, or_false] at hi
      exact ⟨_, hi, by unfold IRn; omega⟩
  · refine ⟨fun x hx => ?_, by show (0 : Nat) < 2 ^ 50; decide, Nat.le_refl _, fun i hi => by cases hi⟩
    simp only [BN, TB2, List.mem_cons, List.not_mem_nil, or_false] at hx
    unfold IRn
    rcases hx with rfl | rfl | rfl | rfl <;> omega
  · refine ⟨fun x hx => ?_, by show (1 : Nat) < 2 ^ 50; decide, Nat.le_refl _, fun i hi => ?_⟩
    · simp only [BK, TB3, List.mem_cons, List.not_mem_nil, or_false] at hx
      unfold IRn
      rcases hx with rfl | rfl | rfl | rfl <;> omega
    · simp only [BK, List.mem_cons, List.not_mem_nil, or_false] at hi
      exact ⟨_, hi, by unfold IRn; omega⟩
theorem FL03_at {w : World} {B n m g0 g1 g3 gp gb : Nat} {ps : List Int} (hm : m ≤ 4) (hp : Reads w B 1 (some ⟨gp, 0, none⟩) ps.length (ints ps)) (hb : Reads w B 5 (some ⟨gb, 0, none⟩) 4 ((L03 n g0 g1 g3).flatMap RBlk.cells))
    (h0 : Reads w B 8 (some ⟨g0, 0, none⟩) 1 (IB0 n).cells) (h1 : Reads w B 8 (some ⟨g1, 0, none⟩) 1 (IB1 n).cells) (h3 : Reads w B 8 (some ⟨g3, 0, none⟩) 1 (IB3 n).cells) : FunAt w B (FL03 gp gb ps ((L03 n g0 g1 g3).take m)) := by
  refine OKB.fun_ (fun b hb => L03_ok b (List.mem_of_mem_take hb)) hp ?_ (fun b hb => ?_)
  · have q := hb.pre (k := m) hm
    have hl : ((L03 n g0 g1 g3).take m).length = m := by
      rw [List.length_take]
      exact Nat.min_eq_left hm
    have he : ((L03 n g0 g1 g3).flatMap RBlk.cells).take (m * 5) = ((L03 n g0 g1 g3).take m).flatMap RBlk.cells := by
      have : m = 0 ∨ m = 1 ∨ m = 2 ∨ m = 3 ∨ m = 4 := by omega
      rcases this with rfl | rfl | rfl | rfl | rfl <;> rfl
    rw [he] at q
    show Reads w B 5 (some ⟨gb, 0, none⟩) ((L03 n g0 g1 g3).take m).length _
    rw [hl]
    exact q
  · have hb' := List.mem_of_mem_take hb
    simp only [L03, List.mem_cons, List.not_mem_nil, or_false] at hb'
    rcases hb' with rfl | rfl | rfl | rfl
    · exact h0
    · exact h1
    · exact reads_none_
    · exact h3
theorem FL03_fit {n m g0 g1 g3 gp gb : Nat} {ps : List Int} (hm : m ≤ 4) (hp : ∀ n ∈ ps, IRn n) (hl : ps.length ≤ 2) : Fit (FL03 gp gb ps ((L03 n g0 g1 g3).take m)) := by
  have hbl : ((L03 n g0 g1 g3).take m).length ≤ 4 := by
    rw [List.length_take]
    exact Nat.le_trans (Nat.min_le_left _ _) hm
  refine OKB.fit (fun b hb => L03_ok b (List.mem_of_mem_take hb)) hp ?_ ?_ (Nat.le_refl _) hbl
  · show ps.length < 2 ^ 50
    omega
  · show ((L03 n g0 g1 g3).take m).length < 2 ^ 50
    omega
def VF (n g1 : Nat) : Value → List Res → Prop := fun v R => ∃ g g0 g3 : Nat, v = .slice (some ⟨g, 0, none⟩) 4 4 ∧ R = [row (.slice (some ⟨g, 0, none⟩) 4 4) 34 5 4 ((L03 n g0 g1 g3).flatMap RBlk.cells), row (.slice (some ⟨g0, 0, none⟩) 1 1) 25 8 1 (IB0 n).cells, row (.slice (some ⟨g3, 0, none⟩) 1 1) 25 8 1 (IB3 n).cells]
theorem VF.of {P : Program} {w0 : World} {B : Nat} {σ : Env} {L : List Res} {o : Oper} {n g0 g1 g3 : Nat} {xs : List Value} (hx : xs = (L03 n g0 g1 g3).flatMap RBlk.cells)
    (h : Sp P w0 B o σ (row (.slice (some ⟨g0, 0, none⟩) 1 1) 25 8 1 (IB0 n).cells :: row (.slice (some ⟨g3, 0, none⟩) 1 1) 25 8 1 (IB3 n).cells :: L) (NewS 34 5 4 4 xs (row (.slice (some ⟨g0, 0, none⟩) 1 1) 25 8 1 (IB0 n).cells :: row (.slice (some ⟨g3, 0, none⟩) 1 1) 25 8 1 (IB3 n).cells :: L))) :
    Sp P w0 B o σ (row (.slice (some ⟨g0, 0, none⟩) 1 1) 25 8 1 (IB0 n).cells :: row (.slice (some ⟨g3, 0, none⟩) 1 1) 25 8 1 (IB3 n).cells :: L) (Adds (VF n g1) L) := fun M w hh =>
  Goes.mono (h M w hh) fun v w' ⟨L', h1, g, h2, h3⟩ => ⟨L', h1, [_, _, _], by subst h2; subst hx; exact h3, g, g0, g3, h2, rfl⟩
end Go.Proofs.YtcojedoejpcolaaGreat

/- The law IrEnds: each instruction and end, functions of few blocks; walked but for long. -/
namespace Go.Proofs.YtcojedoejpcolaaGreat
set_option linter.unusedVariables false
set_option linter.unusedSimpArgs false
open Go Go.RowKit
set_option maxRecDepth 100000
section
def EN03 : List Int := [-1, 0, 1, 2, 200, 201, 1099511627776, 1099511627777, -1099511627776, -1099511627777]
def IE03 (o : Int) : RIns := ⟨o, 0, 0, 0, 0, 0, none, 0, [], 0⟩

theorem EN03_at {q : Nat} (hq : q < 10) : ∃ e, (ints EN03)[q * 1]? = some (.int .i64 e) ∧ -9223372036854775808 ≤ e ∧ e ≤ 9223372036854775807 := by
  have hl : q < EN03.length := hq
  have hm : ∀ e ∈ EN03, -9223372036854775808 ≤ e ∧ e ≤ 9223372036854775807 := by decide
  refine ⟨EN03[q], ?_, hm _ (List.getElem_mem hl)⟩
  rw [Nat.mul_one]
  unfold ints
  rw [List.getElem?_map, List.getElem?_eq_getElem hl]
  rfl
theorem quo_nat {n d : Nat} (h : n < 100000) : IntKind.i64.wrap ((n : Int).tdiv (d : Int)) = ((n / d : Nat) : Int) := by
  rw [show (n : Int).tdiv (d : Int) = ((n / d : Nat) : Int) from (Int.ofNat_tdiv n d).symm]
  have := Nat.div_le_self n d
  exact wrapi (by omega)

theorem tm_nat (n d : Nat) : (n : Int).tmod (d : Int) = ((n % d : Nat) : Int) := (Int.ofNat_tmod n d).symm
theorem insAt0 {w : World} {x : RIns} (h1 : x.aA = none) (h2 : x.args = []) (hc : -9223372036854775808 ≤ x.callee ∧ x.callee ≤ 9223372036854775807) : InsAt w x := ⟨by rw [h1, h2]; exact reads_none_, by rw [h2]; decide, hc⟩
theorem keep_rot {r a b c : Res} : Keep [r, a, b, c] [a, b, c, r] := keep_count [] fun _ x => by simp only [List.set_cons_succ, List.set_cons_zero, List.count_append, List.count_cons, List.count_nil, List.cons_append, List.nil_append]; omega
theorem law03_set_ct {w : World} {v : Int} : Ct Tryz.prog 7 #[.int .i64 v] w (Is (I1 v).val) := by
  refine Ct.mk Tryz.func7 rfl rfl ?_
  refine Cd.seq ?_
  refine Cd.region ?_
  refine Ol.x (alc zr_api_Ins) ?_
  rintro _ _ ⟨g2, rfl, rfl⟩
  refine Ol.nil ?_
  refine Cd.seq ?_
  refine Cd.region ?_
  refine Ol.p mvi ?_
  refine Ol.p (bds (cs := (I1 v).cells.toArray) bs_api_Ins zr_api_Ins (hf := by kernel_rfl)) ?_
  refine Ol.s (stw (vs := (I1 v).cells.toArray) sz_api_Ins rfl (I1 v).one (i := 0) rfl rfl) ?_
  refine Ol.nil ?_
  exact Cd.ret ⟨_, retc rfl ag_api_Ins rfl (i := 0) rfl rfl, [], Keep.nil, rfl, rfl⟩
set_option maxHeartbeats 4000000 in
theorem law03_IrEnds_ct {w : World} (hlong : ∀ w', Ct Tryz.prog 9 #[] w' (Is (.bool true))) : Ct Tryz.prog 3 #[] w (Is (.bool true)) := by
  refine Ct.mk Tryz.func3 rfl rfl ?_
  refine Cd.seq ?_
  refine Cd.region ?_
  refine Ol.p asb ?_
  refine Ol.nil ?_
  refine Cd.seq ?_
  refine Cd.region ?_
  refine Ol.x (bsv (ints EN03) sl_L_int zr_int (by intro v hv; simp [ints, EN03] at hv; rcases hv with rfl | rfl | rfl | rfl | rfl | rfl | rfl | rfl | rfl | rfl <;> rfl)) ?_
  rintro _ _ ⟨g10, rfl, rfl⟩
  refine Ol.p ass ?_
  refine Ol.nil ?_
  refine Cd.seq ?_
  refine Cd.seq ?_
  refine Cd.region ?_
  refine Ol.p asi ?_
  refine Ol.nil ?_
  refine Cd.block ?_
  refine Cd.loop (fun m σ L => ∃ o : Int, m = (19 - o).toNat ∧ -1 ≤ o ∧ o ≤ 19 ∧ Has σ [(1, .slice (some ⟨g10, 0, none⟩) 10 10), (2, .int .i64 o)] ∧ [row (.slice (some ⟨g10, 0, none⟩) 10 10) 3 1 10 (ints EN03)] = L) (n := 20) ⟨-1, rfl, by omega, by omega, ⟨rfl, rfl, trivial⟩, rfl⟩ ?_
  rintro _ σ L ⟨o, rfl, ho1, ho2, hs, rfl⟩
  refine Cd.has hs ?_
  clear hs
  refine Cd.seq ?_
  refine Cd.seq ?_
  refine Cd.region ?_
  refine Ol.p mvi ?_
  refine Ol.p lsi ?_
  refine Ol.nil ?_
  refine Cd.cond rfl (fun h => ?_) (fun h => ?_)
  · have hlt : o < 19 := by
      have h : decide (o < 19) = true := h
      exact of_decide_eq_true h
    refine Cd.skip ?_
    refine Cd.seq ?_
    refine Cd.block ?_
    refine Cd.seq ?_
    refine Cd.region ?_
    refine Ol.p mvi ?_
    refine Ol.p (bds (cs := (IE03 o).cells.toArray) bs_api_Ins zr_api_Ins (hf := by kernel_rfl)) ?_
    refine Ol.x (alc zr_api_Ins) ?_
    rintro _ _ ⟨g3, rfl, rfl⟩
    refine Ol.s (stw (vs := (IE03 o).cells.toArray) sz_api_Ins rfl (IE03 o).one (i := 0) rfl rfl) ?_
    refine Ol.nil ?_
    refine Cd.seq ?_
    refine Cd.region ?_
    refine Ol.p asi ?_
    refine Ol.nil ?_
    refine Cd.block ?_
    refine Cd.loop (fun m σ L => ∃ n : Nat, m = 80 - n ∧ n ≤ 80 ∧ Has σ [(1, .slice (some ⟨g10, 0, none⟩) 10 10), (2, .int .i64 o), (3, .pointer (some ⟨g3, 0, none⟩)), (4, .int .i64 n)] ∧ [blk g3 (.cells (IE03 o).cells.toArray 25), row (.slice (some ⟨g10, 0, none⟩) 10 10) 3 1 10 (ints EN03)] = L) (n := 80) ⟨0, rfl, Nat.zero_le _, ⟨rfl, rfl, rfl, rfl, trivial⟩, rfl⟩ ?_
    rintro _ σ L ⟨n, rfl, hn, hs, rfl⟩
    refine Cd.has hs ?_
    clear hs
    refine Cd.seq ?_
    refine Cd.seq ?_
    refine Cd.region ?_
    refine Ol.p mvi ?_
    refine Ol.p lsi ?_
    refine Ol.nil ?_
    refine Cd.cond rfl (fun h => ?_) (fun h => ?_)
    · have hnl : n < 80 := by
        have h : decide ((n : Int) < 80) = true := h
        have := of_decide_eq_true h
        omega
      obtain ⟨e, he, hr⟩ := EN03_at (q := n / 8) (by omega)
      have hq8 : IntKind.i64.wrap ((n : Int).tdiv 8) = ((n / 8 : Nat) : Int) := quo_nat (d := 8) (by omega)
      have ht3 := tm_bd (a := (n : Int)) (b := 3) (by omega)
      refine Cd.skip ?_
      refine Cd.seq ?_
      refine Cd.block ?_
      refine Cd.seq ?_
      refine Cd.region ?_
      refine Ol.p (ldw (cs := (IE03 o).cells.toArray) ag_api_Ins (i := 0) rfl rfl) ?_
      refine Ol.x (alc zr_api_Ins) ?_
      rintro _ _ ⟨g5, rfl, rfl⟩
      refine Ol.s (stw (vs := (IE03 o).cells.toArray) sz_api_Ins rfl (IE03 o).one (i := 0) rfl rfl) ?_
      refine Ol.nil ?_
      refine Cd.mid (fun σ' L' => ∃ (x : RIns) (R : List Res), Has σ' [(1, .slice (some ⟨g10, 0, none⟩) 10 10), (2, .int .i64 o), (3, .pointer (some ⟨g3, 0, none⟩)), (4, .int .i64 n), (5, .pointer (some ⟨g5, 0, none⟩))] ∧ (∀ M w', Hp w w.heap.size (M ++ (blk g5 (.cells x.cells.toArray 25) :: blk g3 (.cells (IE03 o).cells.toArray 25) :: row (.slice (some ⟨g10, 0, none⟩) 10 10) 3 1 10 (ints EN03) :: R)) w' → InsAt w' x) ∧ Keep L' (blk g5 (.cells x.cells.toArray 25) :: blk g3 (.cells (IE03 o).cells.toArray 25) :: row (.slice (some ⟨g10, 0, none⟩) 10 10) 3 1 10 (ints EN03) :: R)) ?_ ?_
      · skip
        refine Cd.seq ?_
        refine Cd.region ?_
        refine Ol.p mvi ?_
        refine Ol.p remi ?_
        refine Ol.nil ?_
        refine Cd.block ?_
        refine Cd.seq ?_
        refine Cd.region ?_
        refine Ol.p eqi ?_
        refine Ol.p asb ?_
        refine Ol.nil ?_
        refine Cd.cond rfl (fun h => ?_) (fun h => ?_)
        · skip
          refine Cd.region ?_
          refine Ol.p mvs ?_
          refine Ol.p mvi ?_
          refine Ol.p quoi ?_
          refine Ol.p (ixn (ix := n / 8) sl_L_int (Som.row (i := 2) rfl (by omega)) (hy := congrArg (Value.int .i64) hq8)) ?_
          refine Ol.p (ld (v := .int .i64 e) one_int (Rd.row (i := 2) rfl he)) ?_
          refine Ol.p (fdl fd_api_Ins_1) ?_
          refine Ol.s (sto (i := 0) (k := 1) (v := .int .i64 e) (.inr sz_int) rfl rfl rfl (by simp [RIns.cells, IE03]) rfl) ?_
          refine Ol.nil ?_
          exact ⟨⟨o, e, 0, 0, 0, 0, none, 0, [], 0⟩, [], ⟨rfl, rfl, rfl, rfl, rfl, trivial⟩, fun M w' hh => insAt0 rfl rfl ⟨by show (_ : Int) ≤ 0; omega, by show (0 : Int) ≤ _; omega⟩, Keep.all⟩
        refine Cd.seq ?_
        refine Cd.region ?_
        refine Ol.p eqi ?_
        refine Ol.p asb ?_
        refine Ol.nil ?_
        refine Cd.cond rfl (fun h => ?_) (fun h => ?_)
        · skip
          refine Cd.seq ?_
          refine Cd.region ?_
          refine Ol.p (fdl fd_api_Ins_1) ?_
          refine Ol.s (sto (i := 0) (k := 1) (v := .int .i64 1) (.inr sz_int) rfl rfl rfl (by simp [RIns.cells, IE03]) rfl) ?_
          refine Ol.nil ?_
          refine Cd.region ?_
          refine Ol.p mvs ?_
          refine Ol.p mvi ?_
          refine Ol.p quoi ?_
          refine Ol.p (ixn (ix := n / 8) sl_L_int (Som.row (i := 2) rfl (by omega)) (hy := congrArg (Value.int .i64) hq8)) ?_
          refine Ol.p (ld (v := .int .i64 e) one_int (Rd.row (i := 2) rfl he)) ?_
          refine Ol.p (fdl fd_api_Ins_2) ?_
          refine Ol.s (sto (i := 0) (k := 2) (v := .int .i64 e) (.inr sz_int) rfl rfl rfl (by simp [RIns.cells, IE03]) rfl) ?_
          refine Ol.nil ?_
          exact ⟨⟨o, 1, e, 0, 0, 0, none, 0, [], 0⟩, [], ⟨rfl, rfl, rfl, rfl, rfl, trivial⟩, fun M w' hh => insAt0 rfl rfl ⟨by show (_ : Int) ≤ 0; omega, by show (0 : Int) ≤ _; omega⟩, Keep.all⟩
        refine Cd.seq ?_
        refine Cd.region ?_
        refine Ol.p eqi ?_
        refine Ol.p asb ?_
        refine Ol.nil ?_
        refine Cd.cond rfl (fun h => ?_) (fun h => ?_)
        · skip
          refine Cd.seq ?_
          refine Cd.region ?_
          refine Ol.p (fdl fd_api_Ins_1) ?_
          refine Ol.s (sto (i := 0) (k := 1) (v := .int .i64 1) (.inr sz_int) rfl rfl rfl (by simp [RIns.cells, IE03]) rfl) ?_
          refine Ol.nil ?_
          refine Cd.seq ?_
          refine Cd.region ?_
          refine Ol.p (fdl fd_api_Ins_2) ?_
          refine Ol.s (sto (i := 0) (k := 2) (v := .int .i64 2) (.inr sz_int) rfl rfl rfl (by simp [RIns.cells, IE03]) rfl) ?_
          refine Ol.nil ?_
          refine Cd.region ?_
          refine Ol.p mvs ?_
          refine Ol.p mvi ?_
          refine Ol.p quoi ?_
          refine Ol.p (ixn (ix := n / 8) sl_L_int (Som.row (i := 2) rfl (by omega)) (hy := congrArg (Value.int .i64) hq8)) ?_
          refine Ol.p (ld (v := .int .i64 e) one_int (Rd.row (i := 2) rfl he)) ?_
          refine Ol.p (fdl fd_api_Ins_3) ?_
          refine Ol.s (sto (i := 0) (k := 3) (v := .int .i64 e) (.inr sz_int) rfl rfl rfl (by simp [RIns.cells, IE03]) rfl) ?_
          refine Ol.nil ?_
          exact ⟨⟨o, 1, 2, e, 0, 0, none, 0, [], 0⟩, [], ⟨rfl, rfl, rfl, rfl, rfl, trivial⟩, fun M w' hh => insAt0 rfl rfl ⟨by show (_ : Int) ≤ 0; omega, by show (0 : Int) ≤ _; omega⟩, Keep.all⟩
        refine Cd.seq ?_
        refine Cd.region ?_
        refine Ol.p eqi ?_
        refine Ol.p asb ?_
        refine Ol.nil ?_
        refine Cd.cond rfl (fun h => ?_) (fun h => ?_)
        · skip
          refine Cd.seq ?_
          refine Cd.region ?_
          refine Ol.p (fdl fd_api_Ins_1) ?_
          refine Ol.s (sto (i := 0) (k := 1) (v := .int .i64 1) (.inr sz_int) rfl rfl rfl (by simp [RIns.cells, IE03]) rfl) ?_
          refine Ol.nil ?_
          refine Cd.region ?_
          refine Ol.p mvs ?_
          refine Ol.p mvi ?_
          refine Ol.p quoi ?_
          refine Ol.p (ixn (ix := n / 8) sl_L_int (Som.row (i := 2) rfl (by omega)) (hy := congrArg (Value.int .i64) hq8)) ?_
          refine Ol.p (ld (v := .int .i64 e) one_int (Rd.row (i := 2) rfl he)) ?_
          refine Ol.p (fdl fd_api_Ins_4) ?_
          refine Ol.s (sto (i := 0) (k := 4) (v := .int .i64 e) (.inr sz_int) rfl rfl rfl (by simp [RIns.cells, IE03]) rfl) ?_
          refine Ol.nil ?_
          exact ⟨⟨o, 1, 0, 0, e, 0, none, 0, [], 0⟩, [], ⟨rfl, rfl, rfl, rfl, rfl, trivial⟩, fun M w' hh => insAt0 rfl rfl ⟨by show (_ : Int) ≤ 0; omega, by show (0 : Int) ≤ _; omega⟩, Keep.all⟩
        refine Cd.seq ?_
        refine Cd.region ?_
        refine Ol.p eqi ?_
        refine Ol.p asb ?_
        refine Ol.nil ?_
        refine Cd.cond rfl (fun h => ?_) (fun h => ?_)
        · skip
          refine Cd.seq ?_
          refine Cd.region ?_
          refine Ol.p (fdl fd_api_Ins_2) ?_
          refine Ol.s (sto (i := 0) (k := 2) (v := .int .i64 1) (.inr sz_int) rfl rfl rfl (by simp [RIns.cells, IE03]) rfl) ?_
          refine Ol.nil ?_
          refine Cd.seq ?_
          refine Cd.region ?_
          refine Ol.p mvs ?_
          refine Ol.p mvi ?_
          refine Ol.p quoi ?_
          refine Ol.p (ixn (ix := n / 8) sl_L_int (Som.row (i := 2) rfl (by omega)) (hy := congrArg (Value.int .i64) hq8)) ?_
          refine Ol.p (ld (v := .int .i64 e) one_int (Rd.row (i := 2) rfl he)) ?_
          refine Ol.p (fdl fd_api_Ins_3) ?_
          refine Ol.s (sto (i := 0) (k := 3) (v := .int .i64 e) (.inr sz_int) rfl rfl rfl (by simp [RIns.cells, IE03]) rfl) ?_
          refine Ol.nil ?_
          refine Cd.region ?_
          refine Ol.p mvi ?_
          refine Ol.p (fdl fd_api_Ins_4) ?_
          refine Ol.s (sto (i := 0) (k := 4) (v := .int .i64 (n : Int)) (.inr sz_int) rfl rfl rfl (by simp [RIns.cells, IE03]) rfl) ?_
          refine Ol.nil ?_
          exact ⟨⟨o, 0, 1, e, (n : Int), 0, none, 0, [], 0⟩, [], ⟨rfl, rfl, rfl, rfl, rfl, trivial⟩, fun M w' hh => insAt0 rfl rfl ⟨by show (_ : Int) ≤ 0; omega, by show (0 : Int) ≤ _; omega⟩, Keep.all⟩
        refine Cd.seq ?_
        refine Cd.region ?_
        refine Ol.p eqi ?_
        refine Ol.p asb ?_
        refine Ol.nil ?_
        refine Cd.cond rfl (fun h => ?_) (fun h => ?_)
        · skip
          refine Cd.seq ?_
          refine Cd.region ?_
          refine Ol.p mvs ?_
          refine Ol.p mvi ?_
          refine Ol.p quoi ?_
          refine Ol.p (ixn (ix := n / 8) sl_L_int (Som.row (i := 2) rfl (by omega)) (hy := congrArg (Value.int .i64) hq8)) ?_
          refine Ol.p (ld (v := .int .i64 e) one_int (Rd.row (i := 2) rfl he)) ?_
          refine Ol.p (fdl fd_api_Ins_5) ?_
          refine Ol.s (sto (i := 0) (k := 5) (v := .int .i64 e) (.inr sz_int) rfl rfl rfl (by simp [RIns.cells, IE03]) rfl) ?_
          refine Ol.nil ?_
          refine Cd.region ?_
          refine Ol.p mvs ?_
          refine Ol.p mvi ?_
          refine Ol.p quoi ?_
          refine Ol.p (ixn (ix := n / 8) sl_L_int (Som.row (i := 2) rfl (by omega)) (hy := congrArg (Value.int .i64) hq8)) ?_
          refine Ol.p (ld (v := .int .i64 e) one_int (Rd.row (i := 2) rfl he)) ?_
          refine Ol.x (bsv [.int .i64 1, .int .i64 e] sl_L_int zr_int (by simp [Value.cells])) ?_
          rintro _ _ ⟨g84, rfl, rfl⟩
          refine Ol.p (fdl fd_api_Ins_6) ?_
          refine Ol.s (sto (i := 1) (k := 6) (v := .slice (some ⟨g84, 0, none⟩) 2 2) (.inr sz_L_int) rfl rfl rfl (by simp [RIns.cells, IE03]) rfl) ?_
          refine Ol.nil ?_
          exact ⟨⟨o, 0, 0, 0, 0, e, some ⟨g84, 0, none⟩, 2, [1, e], 0⟩, [row (.slice (some ⟨g84, 0, none⟩) 2 2) 3 1 2 (ints [1, e])], ⟨rfl, rfl, rfl, rfl, rfl, trivial⟩, fun M w' hh => ⟨Reads.row hh (i := 3) rfl, by show (2 : Nat) < 2 ^ 50; decide, hr⟩, keep_rot⟩
        refine Cd.seq ?_
        refine Cd.region ?_
        refine Ol.p eqi ?_
        refine Ol.p asb ?_
        refine Ol.nil ?_
        refine Cd.cond rfl (fun h => ?_) (fun h => ?_)
        · skip
          obtain ⟨al, hal⟩ : ∃ al, al = List.replicate (n / 8) (0 : Int) := ⟨_, rfl⟩
          have hln : n / 8 = al.length := by rw [hal]; simp
          have hl10 : al.length < 10 := by omega
          have hmade : (madeCells (Value.int .i64 0).cells (al.length * 1)).toList.take (al.length * 1) = ints al := (made_ints al.length).trans (by rw [← hln, hal]; simp [ints])
          rw [hln] at hq8
          refine Cd.seq ?_
          refine Cd.region ?_
          refine Ol.p (fdl fd_api_Ins_1) ?_
          refine Ol.s (sto (i := 0) (k := 1) (v := .int .i64 1) (.inr sz_int) rfl rfl rfl (by simp [RIns.cells, IE03]) rfl) ?_
          refine Ol.nil ?_
          refine Cd.seq ?_
          refine Cd.region ?_
          refine Ol.p mvi ?_
          refine Ol.p remi ?_
          refine Ol.p addi ?_
          refine Ol.p (fdl fd_api_Ins_5) ?_
          refine Ol.s (sto (i := 0) (k := 5) (v := .int .i64 (99 + (n : Int).tmod 3)) (.inr sz_int) rfl rfl rfl (by simp [RIns.cells, IE03]) rfl) ?_
          refine Ol.nil ?_
          refine Cd.region ?_
          refine Ol.p mvi ?_
          refine Ol.p quoi ?_
          refine Ol.x (mks (n := al.length) (c := al.length) sl_L_int zr_int (hx := congrArg (Value.int .i64) hq8) (hy := congrArg (Value.int .i64) hq8)) ?_
          rintro _ _ ⟨g95, rfl, rfl⟩
          refine Ol.p (fdl fd_api_Ins_6) ?_
          refine Ol.s (sto (i := 1) (k := 6) (v := .slice (some ⟨g95, 0, none⟩) al.length al.length) (.inr sz_L_int) rfl rfl rfl (by simp [RIns.cells, IE03]) rfl) ?_
          refine Ol.nil ?_
          exact ⟨⟨o, 1, 0, 0, 0, 99 + (n : Int).tmod 3, some ⟨g95, 0, none⟩, al.length, al, 0⟩, [row (.slice (some ⟨g95, 0, none⟩) al.length al.length) 3 1 al.length ((madeCells (Value.int .i64 0).cells (al.length * 1)).toList.take (al.length * 1))], ⟨rfl, rfl, rfl, rfl, rfl, trivial⟩, fun M w' hh => ⟨by have q := Reads.row hh (i := 3) rfl; rw [hmade] at q; exact q, by show al.length < 2 ^ 50; omega, by show _ ≤ 99 + (n : Int).tmod 3 ∧ 99 + (n : Int).tmod 3 ≤ _; omega⟩, keep_rot⟩
        refine Cd.seq ?_
        refine Cd.region ?_
        refine Ol.p eqi ?_
        refine Ol.p asb ?_
        refine Ol.nil ?_
        refine Cd.cond rfl (fun h => ?_) (fun h => ?_)
        · skip
          refine Cd.seq ?_
          refine Cd.region ?_
          refine Ol.p (fdl fd_api_Ins_1) ?_
          refine Ol.s (sto (i := 0) (k := 1) (v := .int .i64 1) (.inr sz_int) rfl rfl rfl (by simp [RIns.cells, IE03]) rfl) ?_
          refine Ol.nil ?_
          refine Cd.seq ?_
          refine Cd.region ?_
          refine Ol.p mvs ?_
          refine Ol.p mvi ?_
          refine Ol.p quoi ?_
          refine Ol.p (ixn (ix := n / 8) sl_L_int (Som.row (i := 2) rfl (by omega)) (hy := congrArg (Value.int .i64) hq8)) ?_
          refine Ol.p (ld (v := .int .i64 e) one_int (Rd.row (i := 2) rfl he)) ?_
          refine Ol.p (fdl fd_api_Ins_2) ?_
          refine Ol.s (sto (i := 0) (k := 2) (v := .int .i64 e) (.inr sz_int) rfl rfl rfl (by simp [RIns.cells, IE03]) rfl) ?_
          refine Ol.nil ?_
          refine Cd.region ?_
          refine Ol.p mvi ?_
          refine Ol.p quoi ?_
          refine Ol.p (fdl fd_api_Ins_7) ?_
          refine Ol.s (sto (i := 0) (k := 7) (v := .int .i64 (IntKind.i64.wrap ((n : Int).tdiv 40))) (.inr sz_int) rfl rfl rfl (by simp [RIns.cells, IE03]) rfl) ?_
          refine Ol.nil ?_
          exact ⟨⟨o, 1, e, 0, 0, 0, none, 0, [], IntKind.i64.wrap ((n : Int).tdiv 40)⟩, [], ⟨rfl, rfl, rfl, rfl, rfl, trivial⟩, fun M w' hh => insAt0 rfl rfl ⟨by show (_ : Int) ≤ 0; omega, by show (0 : Int) ≤ _; omega⟩, Keep.all⟩
        refine Cd.skip ?_
        exact ⟨IE03 o, [], ⟨rfl, rfl, rfl, rfl, rfl, trivial⟩, fun M w' hh => insAt0 rfl rfl ⟨by show (_ : Int) ≤ 0; omega, by show (0 : Int) ≤ _; omega⟩, Keep.all⟩
      rintro σ' L' ⟨x, R, hs', hI, hkp⟩
      refine Cd.keep hkp ?_
      refine Cd.has hs' ?_
      clear hs'
      obtain ⟨tA, htA⟩ : ∃ tA : Tm, tA = ⟨o.tmod 6, e, (n : Int).tmod 3, (n : Int).tmod 2⟩ := ⟨_, rfl⟩
      refine Cd.mid (fun σ' L' => Has σ' [(1, .slice (some ⟨g10, 0, none⟩) 10 10), (2, .int .i64 o), (3, .pointer (some ⟨g3, 0, none⟩)), (4, .int .i64 n), (134, .bool false)] ∧ [blk g3 (.cells (IE03 o).cells.toArray 25), row (.slice (some ⟨g10, 0, none⟩) 10 10) 3 1 10 (ints EN03)] = L') ?_ ?_
      · skip
        refine Cd.draw mixed 26 (exIs (fun opNo => match opNo with | 14 => some (.bool true) | 23 => some (.bool true) | _ => none)) (fun _ => []) (by kernel_rfl) exIs_in (fun u hu => ?_)
        refine Wk.p (ldw (cs := x.cells.toArray) ag_api_Ins (i := 0) rfl rfl) ?_
        refine Wk.p mvi ?_
        refine Wk.p remi ?_
        refine Wk.p mvs ?_
        refine Wk.p mvi ?_
        refine Wk.p quoi ?_
        refine Wk.p (ixn (ix := n / 8) sl_L_int (Som.row (i := 2) rfl (by omega)) (hy := congrArg (Value.int .i64) hq8)) ?_
        refine Wk.p (ld (v := .int .i64 e) one_int (Rd.row (i := 2) rfl he)) ?_
        refine Wk.p mvi ?_
        refine Wk.p remi ?_
        refine Wk.p mvi ?_
        refine Wk.p remi ?_
        refine Wk.p (bda (cs := #[.int .i64 ((n : Int).tmod 3), .int .i64 ((n : Int).tmod 2)]) ar_A2_int zr_A2_int (hf := by kernel_rfl)) ?_
        refine Wk.p (bds (cs := (Tm.cells ⟨o.tmod 6, e, (n : Int).tmod 3, (n : Int).tmod 2⟩).toArray) bs_api_Term zr_api_Term (hf := by kernel_rfl)) ?_
        refine Wk.dk hu (sp_call (vs := [x.val, Tm.val ⟨o.tmod 6, e, (n : Int).tmod 3, (n : Int).tmod 2⟩]) en_law03_IrParts (fun M w' hh => law03_IrParts_ct (hI M w' hh))) ?_
        refine Wk.p noti ?_
        refine Wk.p mvb ?_
        refine Wk.gp rfl (ldw (cs := x.cells.toArray) ag_api_Ins (i := 0) rfl rfl) ?_
        refine Wk.gp rfl mvi ?_
        refine Wk.gp rfl remi ?_
        refine Wk.gp rfl mvi ?_
        refine Wk.gp rfl remi ?_
        refine Wk.gp rfl (bds (cs := (Tm.cells ⟨o.tmod 6, (n : Int).tmod 2, 0, 0⟩).toArray) bs_api_Term zr_api_Term (hf := by kernel_rfl)) ?_
        refine Wk.gdk hu rfl (sp_call (vs := [x.val, Tm.val ⟨o.tmod 6, (n : Int).tmod 2, 0, 0⟩]) en_law03_IrParts (fun M w' hh => law03_IrParts_ct (hI M w' hh))) ?_
        refine Wk.gp rfl noti ?_
        refine Wk.p (pkFb rfl) ?_
        refine Wk.nil ?_
        rw [needs_exIs hu rfl]
        refine Ol.keep (.sub (.cons _ (.cons_cons _ (.cons_cons _ (List.nil_sublist _))))) ?_
        refine Ol.nil ?_
        exact ⟨⟨rfl, rfl, rfl, rfl, rfl, trivial⟩, rfl⟩
      rintro σ' _ ⟨hs', rfl⟩
      refine Cd.has hs' ?_
      clear hs'
      refine Cd.cond rfl (fun h => by cases h) (fun _ => ?_)
      refine Cd.skip ?_
      refine Cd.region ?_
      refine Ol.p mvi ?_
      refine Ol.p addi ?_
      refine Ol.p asi ?_
      refine Ol.nil ?_
      exact ⟨80 - (n + 1), by omega, n + 1, rfl, by omega, ⟨rfl, rfl, rfl, rfl, trivial⟩, rfl⟩
    refine Cd.exit (id := 2) ?_
    refine Cd.keep (.sub (.cons _ (List.Sublist.refl _))) ?_
    refine Cd.region ?_
    refine Ol.p mvi ?_
    refine Ol.p addi ?_
    refine Ol.p asi ?_
    refine Ol.nil ?_
    exact ⟨(19 - (o + 1)).toNat, by omega, o + 1, rfl, by omega, by omega, ⟨rfl, rfl, trivial⟩, rfl⟩
  refine Cd.exit (id := 0) ?_
  refine Cd.seq ?_
  refine Cd.seq ?_
  refine Cd.region ?_
  refine Ol.p asi ?_
  refine Ol.nil ?_
  refine Cd.block ?_
  refine Cd.keep Keep.nil ?_
  refine Cd.loop (fun m σ L => ∃ n : Nat, m = 400 - n ∧ n ≤ 400 ∧ Has σ [(6, .int .i64 n)] ∧ [] = L) (n := 400) ⟨0, rfl, Nat.zero_le _, ⟨rfl, trivial⟩, rfl⟩ ?_
  rintro _ σ L ⟨n, rfl, hn, hs, rfl⟩
  refine Cd.has hs ?_
  clear hs
  refine Cd.seq ?_
  refine Cd.seq ?_
  refine Cd.region ?_
  refine Ol.p mvi ?_
  refine Ol.p lsi ?_
  refine Ol.nil ?_
  refine Cd.cond rfl (fun h => ?_) (fun h => ?_)
  · have hnl : n < 400 := by
      have h : decide ((n : Int) < 400) = true := h
      have := of_decide_eq_true h
      omega
    have a2 := tm_bd (a := (n : Int)) (b := 2) (by omega)
    have a3 := tm_bd (a := (n : Int)) (b := 3) (by omega)
    have a4 := tm_bd (a := (n : Int)) (b := 4) (by omega)
    have a5 := tm_bd (a := (n : Int)) (b := 5) (by omega)
    have c9 := tm_bd (a := IntKind.i64.wrap ((n : Int).tdiv 9)) (b := 3) (by omega)
    have c5 := tm_bd (a := IntKind.i64.wrap ((n : Int).tdiv 5)) (b := 4) (by omega)
    have c3 := tm_bd (a := IntKind.i64.wrap ((n : Int).tdiv 3)) (b := 3) (by omega)
    have c2 := tm_bd (a := IntKind.i64.wrap ((n : Int).tdiv 2)) (b := 2) (by omega)
    refine Cd.skip ?_
    refine Cd.seq ?_
    refine Cd.block ?_
    refine Cd.seq ?_
    refine Cd.region ?_
    refine Ol.p mvi ?_
    refine Ol.p remi ?_
    refine Ol.p addi ?_
    refine Ol.s (cl (v := (IB1 n).val) (vs := [.int .i64 (1 + (n : Int).tmod 2)]) en_law03_set (fun M w' hh => law03_set_ct)) ?_
    refine Ol.x (bs1 (cs := (IB1 n).cells) sl_L_api_Ins zr_api_Ins rfl rfl) ?_
    rintro _ _ ⟨g143, rfl, rfl⟩
    refine Ol.p mvi ?_
    refine Ol.p remi ?_
    refine Ol.p addi ?_
    refine Ol.p mvi ?_
    refine Ol.p remi ?_
    refine Ol.p mvi ?_
    refine Ol.p remi ?_
    refine Ol.p subi ?_
    refine Ol.p mvi ?_
    refine Ol.p quoi ?_
    refine Ol.p remi ?_
    refine Ol.p (bda (cs := #[.int .i64 (TB1 n).t0, .int .i64 (TB1 n).t1]) ar_A2_int zr_A2_int (hf := by kernel_rfl)) ?_
    refine Ol.p (bds (cs := (TB1 n).cells.toArray) bs_api_Term zr_api_Term (hf := by kernel_rfl)) ?_
    refine Ol.p (bds (cs := (BK g143 (IB1 n) (TB1 n)).cells.toArray) bs_api_Block zr_api_Block (hf := by kernel_rfl)) ?_
    refine Ol.x (alc zr_api_Block) ?_
    rintro _ _ ⟨g7, rfl, rfl⟩
    refine Ol.s (stw (vs := (BK g143 (IB1 n) (TB1 n)).cells.toArray) sz_api_Block rfl (RBlk.one _) (i := 0) rfl rfl) ?_
    refine Ol.nil ?_
    refine Cd.seq ?_
    refine Cd.drawU (L0 := _) mixed 32 (fun opNo => match opNo with | 0 => some (NewSv 3 1 1 1 [.int .i64 3]) | 5 => some (Is (IB0 n).val) | 6 => some (NewSv 25 8 1 1 (IB0 n).cells) | 24 => some (Is (IB3 n).val) | 25 => some (NewSv 25 8 1 1 (IB3 n).cells) | 29 => some (VF n g143) | 31 => some (NewPv (.cells #[.slice none 0 0, .slice none 0 0] 37)) | _ => none) (fun opNo => match opNo with | 29 => [6, 25] | _ => []) (fun opNo => match opNo with | 29 => [6, 25] | _ => []) [] (fun _ => []) (by kernel_rfl) (.refl _) (by intro c hc; cases hc) (by intro q V h; split at h <;> cases h; exact ⟨_, _, 0, rfl, rfl⟩; exact ⟨_, [], rfl, rfl⟩; exact ⟨_, _, 0, rfl, rfl⟩; exact ⟨_, [], rfl, rfl⟩; exact ⟨_, _, 0, rfl, rfl⟩; exact ⟨_, _, 0, 0, 0, rfl, rfl⟩; exact ⟨_, _, 0, rfl, rfl⟩) (fun u hu hu0 => ?_)
    refine WkU.xn (V := NewSv 3 1 1 1 [.int .i64 3]) (l := []) (l2 := []) hu rfl rfl rfl (by rw [needs_none]; exact (NewS.adds (bsv [.int .i64 3] sl_L_int zr_int (by simp [Value.cells])))) ?_
    rintro _ _ hu0 ⟨g158, rfl, rfl⟩
    refine WkU.p mvi ?_
    refine WkU.p quoi ?_
    refine WkU.p remi ?_
    refine WkU.p addi ?_
    refine WkU.xn (V := Is (IB0 n).val) (l := []) (l2 := []) hu rfl rfl rfl (by rw [needs_none]; exact (sp_call (vs := [.int .i64 (1 + (IntKind.i64.wrap ((n : Int).tdiv 2)).tmod 2)]) en_law03_set (fun M w' hh => law03_set_ct))) ?_
    rintro _ _ hu5 ⟨rfl, rfl⟩
    refine WkU.xn (V := NewSv 25 8 1 1 (IB0 n).cells) (l := []) (l2 := []) hu rfl rfl rfl (by rw [needs_none]; exact (NewS.adds (bs1 (cs := (IB0 n).cells) sl_L_api_Ins zr_api_Ins rfl rfl))) ?_
    rintro _ _ hu6 ⟨g164, rfl, rfl⟩
    refine WkU.p mvi ?_
    refine WkU.p remi ?_
    refine WkU.p addi ?_
    refine WkU.p mvi ?_
    refine WkU.p quoi ?_
    refine WkU.p remi ?_
    refine WkU.p addi ?_
    refine WkU.p (bda (cs := #[.int .i64 (TB0 n).t0, .int .i64 (TB0 n).t1]) ar_A2_int zr_A2_int (hf := by kernel_rfl)) ?_
    refine WkU.p (bds (cs := (TB0 n).cells.toArray) bs_api_Term zr_api_Term (hf := by kernel_rfl)) ?_
    refine WkU.p (bds (cs := (BK g164 (IB0 n) (TB0 n)).cells.toArray) bs_api_Block zr_api_Block (hf := by kernel_rfl)) ?_
    refine WkU.p (ldw (cs := (BK g143 (IB1 n) (TB1 n)).cells.toArray) ag_api_Block (i := 0) rfl rfl) ?_
    refine WkU.p mvi ?_
    refine WkU.p remi ?_
    refine WkU.p (bds (cs := (TB2 n).cells.toArray) bs_api_Term zr_api_Term (hf := by kernel_rfl)) ?_
    refine WkU.p (bds (cs := (BN (TB2 n)).cells.toArray) bs_api_Block zr_api_Block (hf := by kernel_rfl)) ?_
    refine WkU.p mvi ?_
    refine WkU.p remi ?_
    refine WkU.xn (V := Is (IB3 n).val) (l := []) (l2 := []) hu rfl rfl rfl (by rw [needs_none]; exact (sp_call (vs := [.int .i64 ((n : Int).tmod 4)]) en_law03_set (fun M w' hh => law03_set_ct))) ?_
    rintro _ _ hu24 ⟨rfl, rfl⟩
    refine WkU.xn (V := NewSv 25 8 1 1 (IB3 n).cells) (l := []) (l2 := []) hu rfl rfl rfl (by rw [needs_none]; exact (NewS.adds (bs1 (cs := (IB3 n).cells) sl_L_api_Ins zr_api_Ins rfl rfl))) ?_
    rintro _ _ hu25 ⟨g183, rfl, rfl⟩
    refine WkU.p (bda (cs := #[.int .i64 2, .int .i64 0]) ar_A2_int zr_A2_int (hf := by kernel_rfl)) ?_
    refine WkU.p (bds (cs := TB3.cells.toArray) bs_api_Term zr_api_Term (hf := by kernel_rfl)) ?_
    refine WkU.p (bds (cs := (BK g183 (IB3 n) TB3).cells.toArray) bs_api_Block zr_api_Block (hf := by kernel_rfl)) ?_
    refine WkU.xn (V := VF n g143) (l := [6, 25]) (l2 := []) hu rfl rfl rfl (by rw [needs_cons hu6, needs_cons hu25, needs_none]; exact (VF.of (g0 := g164) (g1 := g143) (g3 := g183) rfl (bsn [(BK g164 (IB0 n) (TB0 n)).val, (BK g143 (IB1 n) (TB1 n)).val, (BN (TB2 n)).val, (BK g183 (IB3 n) TB3).val] sl_L_api_Block zr_api_Block (by intro v hv; simp only [List.mem_cons, List.not_mem_nil, or_false] at hv; rcases hv with rfl | rfl | rfl | rfl <;> rfl) rfl (by decide) (by decide)))) ?_
    rintro _ _ hu29 ⟨gB, g0, g3, rfl, rfl⟩
    refine WkU.p (bds (cs := #[.slice (some ⟨g158, 0, none⟩) 1 1, .slice (some ⟨gB, 0, none⟩) 4 4]) bs_api_Func zr_api_Func (hf := by kernel_rfl)) ?_
    refine WkU.xn (V := NewPv (.cells #[.slice none 0 0, .slice none 0 0] 37)) (l := []) (l2 := []) hu rfl rfl rfl (by rw [needs_none]; exact (NewP.adds (alc zr_api_Func))) ?_
    rintro _ _ hu31 ⟨g8, rfl, rfl⟩
    refine WkU.nil ?_
    change Ol _ _ _ _ _ (needs u [31, 29, 24, 5, 0] _)
    rw [needs_cons hu31, needs_cons hu29, needs_cons hu24, needs_cons hu5, needs_cons hu0, needs_none]
    refine Ol.s (stw (vs := (FL03 g158 gB [3] ((L03 n g0 g143 g3).take 4)).cells.toArray) sz_api_Func rfl (by intro u hu; simp [RFun.cells, FL03] at hu; rcases hu with rfl | rfl <;> rfl) (i := 0) rfl rfl) ?_
    refine Ol.nil ?_
    obtain ⟨bs, hbs⟩ : ∃ bs, bs = (L03 n g0 g143 g3).take (1 + n % 4) := ⟨_, rfl⟩
    have hn4 : n % 4 < 4 := Nat.mod_lt _ (by omega)
    have hbl : bs.length = 1 + n % 4 := by
      rw [hbs, List.length_take]
      exact Nat.min_eq_left (by show 1 + n % 4 ≤ 4; omega)
    have hbI : 1 + (n : Int).tmod 4 = (bs.length : Int) := by
      rw [hbl, show (n : Int).tmod 4 = ((n % 4 : Nat) : Int) from tm_nat n 4]
      omega
    obtain ⟨ps, hps⟩ : ∃ ps : List Int, ps = [(n : Int).tmod 3, (IntKind.i64.wrap ((n : Int).tdiv 3)).tmod 3] := ⟨_, rfl⟩
    have hpr : ∀ x ∈ ps, IRn x := by
      intro x hx
      rw [hps] at hx
      simp only [List.mem_cons, List.not_mem_nil, or_false] at hx
      unfold IRn
      rcases hx with rfl | rfl <;> omega
    refine Cd.seq ?_
    refine Cd.region ?_
    refine Ol.p mvi ?_
    refine Ol.p remi ?_
    refine Ol.p mvi ?_
    refine Ol.p quoi ?_
    refine Ol.p remi ?_
    refine Ol.x (bsv [.int .i64 ((n : Int).tmod 3), .int .i64 ((IntKind.i64.wrap ((n : Int).tdiv 3)).tmod 3)] sl_L_int zr_int (by simp [Value.cells])) ?_
    rintro _ _ ⟨g194, rfl, rfl⟩
    refine Ol.p (fdl fd_api_Func_1) ?_
    refine Ol.p (ld (v := .slice (some ⟨gB, 0, none⟩) 4 4) one_L_api_Block (Rd.blk (i := 1) (k := 1) rfl rfl)) ?_
    refine Ol.p mvi ?_
    refine Ol.p remi ?_
    refine Ol.p addi ?_
    refine Ol.p (slh (A := some ⟨gB, 0, none⟩) (n := 4) (c := 4) (h := bs.length) sl_L_api_Block (by omega) (hy := congrArg (Value.int .i64) hbI)) ?_
    refine Ol.p (bds (cs := #[.slice (some ⟨g194, 0, none⟩) 2 2, .slice (some ⟨gB, 0, none⟩) bs.length 4]) bs_api_Func zr_api_Func (hf := by kernel_rfl)) ?_
    refine Ol.x (alc zr_api_Func) ?_
    rintro _ _ ⟨g9, rfl, rfl⟩
    refine Ol.s (stw (vs := #[.slice (some ⟨g194, 0, none⟩) 2 2, .slice (some ⟨gB, 0, none⟩) bs.length 4]) sz_api_Func rfl (by intro u hu; simp at hu; rcases hu with rfl | rfl <;> rfl) (i := 0) rfl rfl) ?_
    refine Ol.nil ?_
    have hgc : #[Value.slice (some ⟨g194, 0, none⟩) 2 2, .slice (some ⟨gB, 0, none⟩) bs.length 4] = (FL03 g194 gB ps bs).cells.toArray := by rw [hps]; rfl
    have hF1 : ∀ {M : List Res} {w' : World} {a b c : Res}, Hp w w.heap.size (M ++ [a, row (.slice (some ⟨g194, 0, none⟩) 2 2) 3 1 2 [.int .i64 ((n : Int).tmod 3), .int .i64 ((IntKind.i64.wrap ((n : Int).tdiv 3)).tmod 3)], b, row (.slice (some ⟨gB, 0, none⟩) 4 4) 34 5 4 ((L03 n g0 g143 g3).flatMap RBlk.cells), row (.slice (some ⟨g0, 0, none⟩) 1 1) 25 8 1 (IB0 n).cells, row (.slice (some ⟨g3, 0, none⟩) 1 1) 25 8 1 (IB3 n).cells, row (.slice (some ⟨g158, 0, none⟩) 1 1) 3 1 1 [.int .i64 3], c, row (.slice (some ⟨g143, 0, none⟩) 1 1) 25 8 1 (IB1 n).cells]) w' → FunAt w' w'.heap.size (FL03 g158 gB [3] ((L03 n g0 g143 g3).take 4)) ∧ FunAt w' w'.heap.size (FL03 g194 gB ps bs) := fun hh => by
      have q1 := Reads.row hh (i := 1) rfl
      have q3 := Reads.row hh (i := 3) rfl
      have q4 := Reads.row hh (i := 4) rfl
      have q5 := Reads.row hh (i := 5) rfl
      have q6 := Reads.row hh (i := 6) rfl
      have q8 := Reads.row hh (i := 8) rfl
      refine ⟨FL03_at (by omega) q6 q3 q4 q8 q5, ?_⟩
      rw [hbs]
      refine FL03_at (by omega) ?_ q3 q4 q8 q5
      subst hps
      exact q1
    have hfit1 : Fit (FL03 g158 gB [3] ((L03 n g0 g143 g3).take 4)) := FL03_fit (by omega) (by intro x hx; simp at hx; subst hx; unfold IRn; omega) (by decide)
    have hfit2 : Fit (FL03 g194 gB ps bs) := by
      rw [hbs]
      exact FL03_fit (by omega) hpr (by rw [hps]; exact Nat.le_refl _)
    refine Cd.seq ?_
    refine Cd.region ?_
    refine Ol.p (ldw (cs := (FL03 g158 gB [3] ((L03 n g0 g143 g3).take 4)).cells.toArray) ag_api_Func (i := 2) rfl rfl) ?_
    refine Ol.s (cl (v := .bool true) (vs := [(FL03 g158 gB [3] ((L03 n g0 g143 g3).take 4)).val]) en_law03_IrTells (fun M w' hh => law03_IrTells_ct (hF1 hh).1 hfit1)) ?_
    refine Ol.p noti ?_
    refine Ol.p mvb ?_
    refine Ol.gp rfl (ldw (cs := (FL03 g194 gB ps bs).cells.toArray) ag_api_Func (i := 0) (by rw [← hgc]; rfl) rfl) ?_
    refine Ol.gs rfl (cl (v := .bool true) (vs := [(FL03 g194 gB ps bs).val]) en_law03_IrTells (fun M w' hh => law03_IrTells_ct (hF1 hh).2 hfit2)) ?_
    refine Ol.gp rfl noti ?_
    refine Ol.p (pkFb rfl) ?_
    refine Ol.nil ?_
    refine Cd.cond rfl (fun h => by cases h) (fun _ => ?_)
    refine Cd.skip ?_
    refine Cd.keep Keep.nil ?_
    refine Cd.region ?_
    refine Ol.p mvi ?_
    refine Ol.p addi ?_
    refine Ol.p asi ?_
    refine Ol.nil ?_
    exact ⟨400 - (n + 1), by omega, n + 1, rfl, by omega, ⟨rfl, trivial⟩, rfl⟩
  refine Cd.exit (id := 5) ?_
  refine Cd.seq ?_
  refine Cd.region ?_
  refine Ol.s (cl en_law03_long (fun M w' hh => hlong w')) ?_
  refine Ol.p mvb ?_
  refine Ol.gs rfl (cl en_law03_awake (fun M w' hh => law03_awake_ct)) ?_
  refine Ol.p (pkTb rfl) ?_
  refine Ol.p asb ?_
  refine Ol.nil ?_
  exact Cd.ret ⟨.bool true, ret1 rfl rfl, [], Keep.nil, rfl, rfl⟩
end
end Go.Proofs.YtcojedoejpcolaaGreat

/- A store of a struct into a row of one's own; lists of blocks that are written so. Over any program. -/
namespace Go.Proofs.YtcojedoejpcolaaGreat
set_option linter.unusedVariables false
open Go Go.RowKit
theorem take_mid {α : Type} {cs vs : List α} {k m N : Nat} (hv : vs.length = m) (hk : k + m ≤ N) (hN : N ≤ cs.length) : (cs.take k ++ vs ++ cs.drop (k + m)).take N = (cs.take N).take k ++ vs ++ (cs.take N).drop (k + m) := by
  have hl : (cs.take k ++ vs).length = k + m := by
    rw [List.length_append, List.length_take, hv]
    omega
  rw [List.take_append, List.take_of_length_le (by omega : (cs.take k ++ vs).length ≤ N), hl, List.take_take, Nat.min_eq_left (by omega : k ≤ N), List.drop_take]
section
variable {P : Program} {w0 : World} {B : Nat} {σ : Env} {L : List Res} {d : Option Nat} {ty T : TypeId} {pos : String} {af : Array Edge} {gd : Option (Nat × Bool)} {x y : Operand}
theorem stra {i e s n c k m : Nat} {A : Option Addr} {xs : List Value} {vs : Array Value} (hT : (P.info? T).map (·.size) = some m) (hn : vs.size = m) (hm : 0 < m) (h1 : ∀ u ∈ vs.toList, u.oneCell' = true) (hi : L[i]? = some (row (.slice A n c) e s n xs)) (hk : k + m ≤ xs.length) (hy : ev σ y = .agg vs := by exact rfl) (hx : ev σ x = .pointer (some (ap A k)) := by exact rfl) :
    Sp P w0 B ⟨d, .store T x y, ty, pos, af, gd⟩ σ L (det undef (L.set i (row (.slice A n c) e s n (xs.take k ++ vs.toList ++ xs.drop (k + m))))) := fun M w hh => by
  have hown : w.ownsRow 0 e s (.slice A n c) n xs := hh.at_ hi
  have hlen := hown.1
  rcases hown.2 with ⟨_, h0⟩ | ⟨g, cap, cur, hv, _, hg, hnc, hcm, hcs, htake⟩
  · rw [h0, Nat.zero_mul] at hlen
    omega
  · injection hv with hA _ hcc
    subst hA
    subst hcc
    have hns : n * s ≤ cur.size := by rw [hcs]; exact Nat.mul_le_mul_right s hnc
    have hvl : vs.toList.length = m := by simpa using hn
    obtain ⟨w', hr, hst, hb⟩ := run_storeCells_all (P := P) (g := g) (e := e) vs.toList k 0 cur w hg (by rw [hvl]; omega) h1
    simp only [Nat.add_zero, hvl] at hb
    have hrow : w'.ownsRow 0 e s (.slice (some ⟨g, 0, none⟩) n c) n (xs.take k ++ vs.toList ++ xs.drop (k + m)) := by
      refine ⟨?_, .inr ⟨g, c, _, rfl, Nat.zero_le _, hb, hnc, hcm, ?_, ?_⟩⟩
      · simp only [List.length_append, List.length_take, List.length_drop, hvl]
        omega
      · simp only [List.size_toArray, List.length_append, List.length_take, List.length_drop, hvl, Array.length_toList]
        omega
      · rw [← htake]
        exact take_mid hvl (by omega) (by simpa using hns)
    refine .inr (.inl ⟨w', ?_, _, hh.set (r' := row (.slice (some ⟨g, 0, none⟩) n c) e s n (xs.take k ++ vs.toList ++ xs.drop (k + m))) hi (hst.mono fun b _ hb => ?_) hrow (fun _ hk => .inl hk), rfl, rfl⟩)
    · rw [ap_own] at hx
      simp only [execOp, hx, hy, Instr.storeAt, Instr.sureAddr, storeVar, Value.cells, Sem.run_bind, Sem.run_pure, Result.andThen_ok, run_size hT, hn, ne_eq, not_true_eq_false, if_false, Sem.run_ite]
      rw [hr]
      rfl
    · have : b = g := hb
      subst this
      simp [row, Value.ownBlock]
end
theorem flat_store {α : Type} {F : α → List Value} {s : Nat} (hs : ∀ x, (F x).length = s) {l : List α} {q a m : Nat} {x x' : α} {vs : List Value} (hx : l[q]? = some x) (hv : vs.length = m) (ha : a + m ≤ s) (hF : F x' = (F x).take a ++ vs ++ (F x).drop (a + m)) :
    (l.flatMap F).take (q * s + a) ++ vs ++ (l.flatMap F).drop (q * s + a + m) = (l.set q x').flatMap F := by
  have hsx := hs x
  have hlq := (List.getElem?_eq_some_iff.1 hx).1
  have hp : ((l.take q).flatMap F).length = q * s := by
    have : ∀ l : List α, (l.flatMap F).length = l.length * s := fun l => by
      induction l with
      | nil => simp
      | cons y l ih => rw [List.flatMap_cons, List.length_append, hs, ih, List.length_cons, Nat.add_mul, Nat.one_mul, Nat.add_comm]
    rw [this, List.length_take, Nat.min_eq_left (by omega)]
  rw [set_split hx, List.flatMap_append, List.flatMap_cons, hF]
  conv => lhs; rw [split_at hx]
  simp only [List.flatMap_append, List.flatMap_cons]
  rw [List.take_append, List.drop_append, List.take_append, List.drop_append, List.take_of_length_le (by omega), List.drop_eq_nil_of_le (by omega : ((l.take q).flatMap F).length ≤ q * s + a + m), hp, show q * s + a - q * s = a by omega, show q * s + a + m - q * s = a + m by omega, hsx, show a - s = 0 by omega, show a + m - s = 0 by omega]
  simp [List.append_assoc]
theorem made_flat {α : Type} {F : α → List Value} {s : Nat} {z : α} {zs : Array Value} (hz : zs.toList = F z) (hs : (F z).length = s) (h0 : 0 < s) (n : Nat) : (madeCells zs (n * s)).toList.take (n * s) = (List.replicate n z).flatMap F := by
  have hsz : zs.size = s := by rw [← hs, ← hz]; simp
  have hl : (madeCells zs (n * s)).size = n * s := by simp [madeCells]
  rw [List.take_of_length_le (by simp [hl])]
  apply List.ext_getElem?
  intro i
  have hfl : ∀ n, ((List.replicate n z).flatMap F).length = n * s := fun n => by
    induction n with
    | zero => simp
    | succ n ih => rw [List.replicate_succ, List.flatMap_cons, List.length_append, ih, hs, Nat.add_mul, Nat.one_mul, Nat.add_comm]
  by_cases h : i < n * s
  · have hm : i % s < s := Nat.mod_lt _ h0
    have hfg : ∀ n i, i < n * s → ((List.replicate n z).flatMap F)[i]? = (F z)[i % s]? := fun n => by
      induction n with
      | zero => intro i hi; omega
      | succ n ih =>
        intro i hi
        rw [List.replicate_succ, List.flatMap_cons]
        rcases Nat.lt_or_ge i s with h1 | h1
        · rw [List.getElem?_append_left (by omega), Nat.mod_eq_of_lt h1]
        · rw [List.getElem?_append_right (by omega), hs, ih (i - s) (by rw [Nat.add_mul] at hi; omega), Nat.mod_eq_sub_mod h1]
    rw [hfg n i h, ← hz, Array.getElem?_toList, Array.getElem?_toList]
    have hlt : i % zs.size < zs.size := by rw [hsz]; exact hm
    simp only [madeCells, Array.getElem?_map, Array.getElem?_range, h, if_true, Option.map_some]
    rw [← hsz, getElem!_pos zs _ hlt, Array.getElem?_eq_getElem hlt]
  · rw [List.getElem?_eq_none (by rw [Array.length_toList, hl]; omega), List.getElem?_eq_none (by rw [hfl]; omega)]
end Go.Proofs.YtcojedoejpcolaaGreat

/- The law IrEnds: long functions, walked. -/
namespace Go.Proofs.YtcojedoejpcolaaGreat
set_option linter.unusedVariables false
set_option linter.unusedSimpArgs false
open Go Go.RowKit
set_option maxRecDepth 100000
section
def T4 : Tm := ⟨4, 0, 0, 0⟩
def okT (t : Tm) : Prop := ∀ n ∈ [t.kind, t.a, t.t0, t.t1], IRn n
theorem tm_one (t : Tm) : ∀ u ∈ t.cells, u.oneCell' = true := by
  intro u hu
  simp only [Tm.cells, List.mem_cons, List.not_mem_nil, or_false] at hu
  rcases hu with rfl | rfl | rfl | rfl <;> rfl
theorem okT4 : okT T4 := by
  intro n hn
  simp only [T4, List.mem_cons, List.not_mem_nil, or_false] at hn
  unfold IRn
  rcases hn with rfl | rfl | rfl | rfl <;> omega
theorem okT0 : okT ⟨0, 0, 0, 0⟩ := by
  intro n hn
  simp only [List.mem_cons, List.not_mem_nil, or_false] at hn
  unfold IRn
  rcases hn with rfl | rfl | rfl | rfl <;> omega
theorem okJ {b : Nat} (h : b < 1000) : okT ⟨1, 0, (b : Int) + 1, 0⟩ := by
  intro n hn
  simp only [List.mem_cons, List.not_mem_nil, or_false] at hn
  unfold IRn
  rcases hn with rfl | rfl | rfl | rfl <;> omega
theorem okBN {t : Tm} (h : okT t) : OKB (BN t) := ⟨h, by show (0 : Nat) < 2 ^ 50; decide, Nat.le_refl _, fun i hi => by cases hi⟩
theorem all_set {α : Type} {p : α → Prop} {l : List α} {q : Nat} {x : α} (h : ∀ y ∈ l, p y) (hx : p x) : ∀ y ∈ l.set q x, p y := fun y hy => by
  rcases List.mem_or_eq_of_mem_set hy with h1 | rfl
  · exact h y h1
  · exact hx
theorem all_add {α : Type} {p : α → Prop} {l : List α} {x : α} (h : ∀ y ∈ l, p y) (hx : p x) : ∀ y ∈ l ++ [x], p y := fun y hy => by
  rcases List.mem_append.1 hy with h1 | h1
  · exact h y h1
  · simp at h1
    subst h1
    exact hx
theorem bt_len (tl : List Tm) : ((tl.map BN).flatMap RBlk.cells).length = tl.length * 5 := by
  rw [flat_len RBlk.len, List.length_map]
theorem bt_store {tl : List Tm} {q : Nat} {t : Tm} (hq : q < tl.length) : ((tl.map BN).flatMap RBlk.cells).take (q * 5 + 1) ++ t.cells ++ ((tl.map BN).flatMap RBlk.cells).drop (q * 5 + 1 + 4) = ((tl.set q t).map BN).flatMap RBlk.cells := by
  have hx : (tl.map BN)[q]? = some (BN tl[q]) := by rw [List.getElem?_map, List.getElem?_eq_getElem hq]; rfl
  rw [flat_store RBlk.len (x' := BN t) hx (show t.cells.length = 4 from rfl) (by decide) rfl, List.map_set]
theorem ins_store {il : List RIns} {q : Nat} {i : RIns} (hq : q < il.length) : (il.flatMap RIns.cells).take (q * 8) ++ i.cells ++ (il.flatMap RIns.cells).drop (q * 8 + 8) = (il.set q i).flatMap RIns.cells :=
  flat_store RIns.len (a := 0) (x' := i) (List.getElem?_eq_getElem hq) (show i.cells.length = 8 from rfl) (by decide) (by
    show i.cells = (il[q].cells).take 0 ++ i.cells ++ (il[q].cells).drop 8
    rw [List.take_zero, List.nil_append, List.drop_eq_nil_of_le (by rw [RIns.len]; exact Nat.le_refl _), List.append_nil])
theorem ints_set (l : List Int) (q : Nat) (v : Int) : (ints l).set q (.int .i64 v) = ints (l.set q v) := by simp [ints, List.map_set]
theorem tells_at {w : World} {pA bA : Option Addr} {np nb pC bC : Nat} {ps : List Int} {bl : List RBlk} (hp : ps.length = np) (hb : bl.length = nb) (hok : ∀ b ∈ bl, OKB b) (hpr : ∀ x ∈ ps, IRn x) (hnp : np ≤ pC) (hnb : nb ≤ bC) (hn1 : np < 2 ^ 50) (hn2 : nb < 2 ^ 50)
    (h1 : Reads w w.heap.size 1 pA np (ints ps)) (h2 : Reads w w.heap.size 5 bA nb (bl.flatMap RBlk.cells)) (h3 : ∀ b ∈ bl, Reads w w.heap.size 8 b.iA b.ins.length (b.ins.flatMap RIns.cells)) : Ct Tryz.prog 8 #[.agg #[.slice pA np pC, .slice bA nb bC]] w (Is (.bool true)) := by
  subst hp
  subst hb
  exact law03_IrTells_ct (f := ⟨pA, pC, ps, bA, bC, bl⟩) (OKB.fun_ hok h1 h2 h3) (OKB.fit hok hpr hn1 hn2 hnp hnb)
theorem tells_bt {w : World} {bA : Option Addr} {nb bC : Nat} {tl : List Tm} (hb : tl.length = nb) (hok : ∀ t ∈ tl, okT t) (hnb : nb ≤ bC) (hn2 : nb < 2 ^ 50) (h2 : Reads w w.heap.size 5 bA nb ((tl.map BN).flatMap RBlk.cells)) : Ct Tryz.prog 8 #[.agg #[.slice none 0 0, .slice bA nb bC]] w (Is (.bool true)) :=
  tells_at (ps := []) (bl := tl.map BN) rfl (by rw [List.length_map]; exact hb) (fun b hb => by obtain ⟨t, ht, rfl⟩ := List.mem_map.1 hb; exact okBN (hok t ht)) (fun x hx => by cases hx) (Nat.le_refl _) hnb (by decide) hn2 reads_none_ h2 (fun b hb => by obtain ⟨t, ht, rfl⟩ := List.mem_map.1 hb; exact reads_none_)
set_option maxHeartbeats 4000000 in
theorem law03_long_ct {w : World} : Ct Tryz.prog 9 #[] w (Is (.bool true)) := by
  refine Ct.mk Tryz.func9 rfl rfl ?_
  refine Cd.seq ?_
  refine Cd.region ?_
  refine Ol.p asb ?_
  refine Ol.nil ?_
  refine Cd.seq ?_
  refine Cd.seq ?_
  refine Cd.region ?_
  refine Ol.p asi ?_
  refine Ol.nil ?_
  refine Cd.block ?_
  refine Cd.loop (fun m σ L => ∃ n : Nat, m = 66 - n ∧ 63 ≤ n ∧ n ≤ 66 ∧ Has σ [(1, .int .i64 n)] ∧ [] = L) (n := 3) ⟨63, rfl, by omega, by omega, ⟨rfl, trivial⟩, rfl⟩ ?_
  rintro _ σ L ⟨n, rfl, hn1, hn2, hs, rfl⟩
  refine Cd.has hs ?_
  clear hs
  refine Cd.seq ?_
  refine Cd.seq ?_
  refine Cd.region ?_
  refine Ol.p mvi ?_
  refine Ol.p lsi ?_
  refine Ol.nil ?_
  refine Cd.cond rfl (fun h => ?_) (fun h => ?_)
  · have hnl : n < 66 := by
      have h : decide ((n : Int) < 66) = true := h
      have := of_decide_eq_true h
      omega
    have hm1 : (n : Int) - 1 = ((n - 1 : Nat) : Int) := by omega
    have hm56 : (n : Int) - 56 = ((n - 56 : Nat) : Int) := by omega
    refine Cd.skip ?_
    refine Cd.seq ?_
    refine Cd.block ?_
    refine Cd.seq ?_
    refine Cd.region ?_
    refine Ol.p ass ?_
    refine Ol.nil ?_
    refine Cd.seq ?_
    refine Cd.seq ?_
    refine Cd.region ?_
    refine Ol.p asi ?_
    refine Ol.nil ?_
    refine Cd.block ?_
    refine Cd.nr 34 5 ?_
    refine Cd.loop (fun m σ L => ∃ (b : Nat) (A : Option Addr) (c : Nat) (tl : List Tm), m = n - b ∧ b ≤ n ∧ Has σ [(1, .int .i64 n), (2, .slice A b c), (3, .int .i64 b)] ∧ tl.length = b ∧ (∀ t ∈ tl, okT t) ∧ [row (.slice A b c) 34 5 b ((tl.map BN).flatMap RBlk.cells)] = L) (n := n) ⟨0, none, 0, [], rfl, Nat.zero_le _, ⟨rfl, rfl, rfl, trivial⟩, rfl, (fun t ht => by cases ht), rfl⟩ ?_
    rintro _ σ L ⟨b, A, c, tl, rfl, hb, hs, htl, hok, rfl⟩
    refine Cd.has hs ?_
    clear hs
    refine Cd.seq ?_
    refine Cd.seq ?_
    refine Cd.region ?_
    refine Ol.p mvi ?_
    refine Ol.p mvi ?_
    refine Ol.p lsi ?_
    refine Ol.nil ?_
    refine Cd.cond rfl (fun h => ?_) (fun h => ?_)
    · have hbl : b < n := by
        have h : decide ((b : Int) < (n : Int)) = true := h
        have := of_decide_eq_true h
        omega
      refine Cd.skip ?_
      refine Cd.seq ?_
      refine Cd.block ?_
      refine Cd.region ?_
      refine Ol.p mvs ?_
      refine Ol.p mvi ?_
      refine Ol.p addi ?_
      refine Ol.p (bda (cs := #[.int .i64 ((b : Int) + 1), .int .i64 0]) ar_A2_int zr_A2_int (hf := by kernel_rfl)) ?_
      refine Ol.p (bds (cs := (Tm.cells ⟨1, 0, (b : Int) + 1, 0⟩).toArray) bs_api_Term zr_api_Term (hf := by kernel_rfl)) ?_
      refine Ol.p (bds (cs := (BN ⟨1, 0, (b : Int) + 1, 0⟩).cells.toArray) bs_api_Block zr_api_Block (hf := by kernel_rfl)) ?_
      refine Ol.x (bs1 (cs := (BN ⟨1, 0, (b : Int) + 1, 0⟩).cells) sl_L_api_Block zr_api_Block rfl rfl) ?_
      rintro _ _ ⟨g26, rfl, rfl⟩
      refine Ol.x (apn (i := 1) (n := b) (m := 1) sl_L_api_Block zr_api_Block rfl (by decide) rfl (Src.row (i := 0) rfl rfl) (RBlk.one _) (by unfold maxLen; omega) (by omega)) ?_
      rintro _ _ ⟨A2, c2, rfl, rfl⟩
      refine Ol.p ass ?_
      refine Ol.keep (.sub (.cons _ (List.Sublist.refl _))) ?_
      refine Ol.nil ?_
      refine Cd.region ?_
      refine Ol.p mvi ?_
      refine Ol.p addi ?_
      refine Ol.p asi ?_
      refine Ol.nil ?_
      refine ⟨n - (b + 1), by omega, b + 1, A2, c2, tl ++ [⟨1, 0, (b : Int) + 1, 0⟩], rfl, by omega, ⟨rfl, rfl, rfl, trivial⟩, by simp [htl], all_add hok (okJ (by omega)), ?_⟩
      rw [List.map_append, List.flatMap_append]
      rfl
    have hbe : b = n := by
      have h : decide ((b : Int) < (n : Int)) = false := h
      have := of_decide_eq_false h
      omega
    obtain rfl : n = b := hbe.symm
    refine Cd.exit (id := 2) ?_
    refine Cd.capl (i := 0) (A := A) (n := n) (c := c) rfl fun hcap => ?_
    refine Cd.seq ?_
    refine Cd.region ?_
    refine Ol.p mvs ?_
    refine Ol.p mvi ?_
    refine Ol.p subi ?_
    refine Ol.p (bds (cs := T4.cells.toArray) bs_api_Term zr_api_Term (hf := by kernel_rfl)) ?_
    refine Ol.p (ixn (ix := n - 1) sl_L_api_Block (Som.row (i := 0) rfl (by omega)) (hy := congrArg (Value.int .i64) hm1)) ?_
    refine Ol.p (fdp fd_api_Block_1) ?_
    refine Ol.s (stra (i := 0) (k := (n - 1) * 5 + 1) (m := 4) (vs := T4.cells.toArray) sz_api_Term rfl (by decide) (tm_one _) rfl (by rw [bt_len]; omega)) ?_
    refine Ol.nil ?_
    show Cd _ _ _ _ [row (.slice A n c) 34 5 n (((tl.map BN).flatMap RBlk.cells).take ((n - 1) * 5 + 1) ++ T4.cells ++ ((tl.map BN).flatMap RBlk.cells).drop ((n - 1) * 5 + 1 + 4))]
    rw [bt_store (by omega)]
    obtain ⟨tj, htj⟩ : ∃ tj, tj = tl.set (n - 1) T4 := ⟨_, rfl⟩
    have hjl : tj.length = n := by rw [htj, List.length_set]; exact htl
    have hjo : ∀ t ∈ tj, okT t := by rw [htj]; exact all_set hok okT4
    rw [← htj]
    clear htj
    refine Cd.seq ?_
    refine Cd.region ?_
    refine Ol.p mvi ?_
    refine Ol.x (mks (n := n) (c := n) sl_L_api_Ins zr_api_Ins) ?_
    rintro _ _ ⟨g35, rfl, rfl⟩
    refine Ol.p (bds (cs := T4.cells.toArray) bs_api_Term zr_api_Term (hf := by kernel_rfl)) ?_
    refine Ol.p (bds (cs := #[.slice (some ⟨g35, 0, none⟩) n n, .int .i64 4, .int .i64 0, .int .i64 0, .int .i64 0]) bs_api_Block zr_api_Block (hf := by kernel_rfl)) ?_
    refine Ol.x (bs1 (cs := [.slice (some ⟨g35, 0, none⟩) n n, .int .i64 4, .int .i64 0, .int .i64 0, .int .i64 0]) sl_L_api_Block zr_api_Block rfl rfl) ?_
    rintro _ _ ⟨g38, rfl, rfl⟩
    refine Ol.p (bds (cs := #[.slice none 0 0, .slice (some ⟨g38, 0, none⟩) 1 1]) bs_api_Func zr_api_Func (hf := by kernel_rfl)) ?_
    refine Ol.x (alc zr_api_Func) ?_
    rintro _ _ ⟨g4, rfl, rfl⟩
    refine Ol.s (stw (vs := #[.slice none 0 0, .slice (some ⟨g38, 0, none⟩) 1 1]) sz_api_Func rfl (by intro u hu; simp at hu; rcases hu with rfl | rfl <;> rfl) (i := 0) rfl rfl) ?_
    refine Ol.nil ?_
    rw [made_flat (zs := (Value.agg #[.int .i64 0, .int .i64 0, .int .i64 0, .int .i64 0, .int .i64 0, .int .i64 0, .slice none 0 0, .int .i64 0]).cells) (F := RIns.cells) (s := 8) (z := ⟨0, 0, 0, 0, 0, 0, none, 0, [], 0⟩) rfl rfl (by decide)]
    refine Cd.seq ?_
    refine Cd.seq ?_
    refine Cd.region ?_
    refine Ol.p asi ?_
    refine Ol.nil ?_
    refine Cd.block ?_
    refine Cd.loop (fun m σ L => ∃ (i : Nat) (il : List RIns), m = n - i ∧ i ≤ n ∧ Has σ [(1, .int .i64 n), (2, .slice A n c), (4, .pointer (some ⟨g4, 0, none⟩)), (5, .int .i64 i)] ∧ il.length = n ∧ (∀ j, j < i → il[j]? = some (I1 ((j : Int) + 1))) ∧ [blk g4 (.cells #[.slice none 0 0, .slice (some ⟨g38, 0, none⟩) 1 1] 37), row (.slice (some ⟨g38, 0, none⟩) 1 1) 34 5 1 [.slice (some ⟨g35, 0, none⟩) n n, .int .i64 4, .int .i64 0, .int .i64 0, .int .i64 0], row (.slice (some ⟨g35, 0, none⟩) n n) 25 8 n (il.flatMap RIns.cells), row (.slice A n c) 34 5 n ((tj.map BN).flatMap RBlk.cells)] = L) (n := n) ⟨0, List.replicate n ⟨0, 0, 0, 0, 0, 0, none, 0, [], 0⟩, rfl, Nat.zero_le _, ⟨rfl, rfl, rfl, rfl, trivial⟩, by simp, (fun j hj => by omega), rfl⟩ ?_
    rintro _ σ L ⟨i, il, rfl, hi, hs, hil, hiv, rfl⟩
    refine Cd.has hs ?_
    clear hs
    refine Cd.seq ?_
    refine Cd.seq ?_
    refine Cd.region ?_
    refine Ol.p mvi ?_
    refine Ol.p mvi ?_
    refine Ol.p lsi ?_
    refine Ol.nil ?_
    refine Cd.cond rfl (fun h => ?_) (fun h => ?_)
    · have hin : i < n := by
        have h : decide ((i : Int) < (n : Int)) = true := h
        have := of_decide_eq_true h
        omega
      refine Cd.skip ?_
      refine Cd.seq ?_
      refine Cd.block ?_
      refine Cd.draw mixed 10 (exIs (fun opNo => match opNo with | 8 => some ((I1 ((i : Int) + 1)).val) | _ => none)) (fun _ => []) (by kernel_rfl) exIs_in (fun u hu => ?_)
      refine Wk.p (fdl fd_api_Func_1) ?_
      refine Wk.p (ld (v := .slice (some ⟨g38, 0, none⟩) 1 1) one_L_api_Block (Rd.blk (i := 0) (k := 1) rfl rfl)) ?_
      refine Wk.p (ixn (ix := 0) sl_L_api_Block (Som.row (i := 1) rfl (by decide))) ?_
      refine Wk.p (fdp fd_api_Block_0) ?_
      refine Wk.p (ld (v := .slice (some ⟨g35, 0, none⟩) n n) one_L_api_Ins (Rd.row (i := 1) rfl rfl)) ?_
      refine Wk.p mvi ?_
      refine Wk.p mvi ?_
      refine Wk.p addi ?_
      refine Wk.dk hu (sp_call (vs := [.int .i64 ((i : Int) + 1)]) en_law03_set (fun M w' hh => law03_set_ct)) ?_
      refine Wk.p (ixn (ix := i) sl_L_api_Ins (Som.row (i := 2) rfl (by omega))) ?_
      refine Wk.nil ?_
      rw [needs_exIs hu rfl]
      refine Ol.s (stra (i := 2) (k := i * 8) (m := 8) (vs := (I1 ((i : Int) + 1)).cells.toArray) sz_api_Ins rfl (by decide) (I1 ((i : Int) + 1)).one rfl (by rw [flat_len RIns.len]; omega)) ?_
      refine Ol.nil ?_
      refine Cd.region ?_
      refine Ol.p mvi ?_
      refine Ol.p addi ?_
      refine Ol.p asi ?_
      refine Ol.nil ?_
      refine ⟨n - (i + 1), by omega, i + 1, il.set i (I1 ((i : Int) + 1)), rfl, by omega, ⟨rfl, rfl, rfl, rfl, trivial⟩, by simp [hil], fun j hj => ?_, ?_⟩
      · rcases Nat.lt_or_ge j i with h1 | h1
        · rw [List.getElem?_set_ne (by omega)]; exact hiv j h1
        · have : j = i := by omega
          subst this
          rw [List.getElem?_set_self (by omega)]
      · rw [← ins_store (by omega)]
        rfl
    have hie : i = n := by
      have h : decide ((i : Int) < (n : Int)) = false := h
      have := of_decide_eq_false h
      omega
    obtain rfl : n = i := hie.symm
    refine Cd.exit (id := 4) ?_
    have hok1 : OKB ⟨some ⟨g35, 0, none⟩, n, il, T4⟩ := by
      refine ⟨okT4, by show il.length < 2 ^ 50; omega, by show il.length ≤ n; omega, fun x hx => ?_⟩
      obtain ⟨j, hj⟩ := List.mem_iff_getElem?.1 hx
      have hjl2 : j < il.length := (List.getElem?_eq_some_iff.1 hj).1
      have := hiv j (by omega)
      rw [hj] at this
      exact ⟨(j : Int) + 1, Option.some.inj this, by unfold IRn; omega⟩
    refine Cd.seq ?_
    refine Cd.region ?_
    refine Ol.p mvi ?_
    refine Ol.p subi ?_
    refine Ol.x (mks (n := n - 56) (c := n - 56) sl_L_int zr_int (hx := congrArg (Value.int .i64) hm56) (hy := congrArg (Value.int .i64) hm56)) ?_
    rintro _ _ ⟨g57, rfl, rfl⟩
    refine Ol.p (bds (cs := T4.cells.toArray) bs_api_Term zr_api_Term (hf := by kernel_rfl)) ?_
    refine Ol.p (bds (cs := (BN T4).cells.toArray) bs_api_Block zr_api_Block (hf := by kernel_rfl)) ?_
    refine Ol.x (bs1 (cs := (BN T4).cells) sl_L_api_Block zr_api_Block rfl rfl) ?_
    rintro _ _ ⟨g60, rfl, rfl⟩
    refine Ol.p (bds (cs := #[.slice (some ⟨g57, 0, none⟩) (n - 56) (n - 56), .slice (some ⟨g60, 0, none⟩) 1 1]) bs_api_Func zr_api_Func (hf := by kernel_rfl)) ?_
    refine Ol.x (alc zr_api_Func) ?_
    rintro _ _ ⟨g6, rfl, rfl⟩
    refine Ol.s (stw (vs := #[.slice (some ⟨g57, 0, none⟩) (n - 56) (n - 56), .slice (some ⟨g60, 0, none⟩) 1 1]) sz_api_Func rfl (by intro u hu; simp at hu; rcases hu with rfl | rfl <;> rfl) (i := 0) rfl rfl) ?_
    refine Ol.nil ?_
    rw [show (Value.int .i64 0).cells = #[.int .i64 0] from rfl, made_ints, show List.replicate (n - 56) (Value.int .i64 0) = ints (List.replicate (n - 56) 0) by simp [ints]]
    refine Cd.seq ?_
    refine Cd.seq ?_
    refine Cd.region ?_
    refine Ol.p asi ?_
    refine Ol.nil ?_
    refine Cd.block ?_
    refine Cd.loop (fun m σ L => ∃ (i : Nat) (pl : List Int), m = n - 56 - i ∧ i ≤ n - 56 ∧ Has σ [(1, .int .i64 n), (2, .slice A n c), (4, .pointer (some ⟨g4, 0, none⟩)), (6, .pointer (some ⟨g6, 0, none⟩)), (7, .int .i64 i)] ∧ pl.length = n - 56 ∧ (∀ x ∈ pl, IRn x) ∧ [blk g6 (.cells #[.slice (some ⟨g57, 0, none⟩) (n - 56) (n - 56), .slice (some ⟨g60, 0, none⟩) 1 1] 37), row (.slice (some ⟨g60, 0, none⟩) 1 1) 34 5 1 (BN T4).cells, row (.slice (some ⟨g57, 0, none⟩) (n - 56) (n - 56)) 3 1 (n - 56) (ints pl), blk g4 (.cells #[.slice none 0 0, .slice (some ⟨g38, 0, none⟩) 1 1] 37), row (.slice (some ⟨g38, 0, none⟩) 1 1) 34 5 1 [.slice (some ⟨g35, 0, none⟩) n n, .int .i64 4, .int .i64 0, .int .i64 0, .int .i64 0], row (.slice (some ⟨g35, 0, none⟩) n n) 25 8 n (il.flatMap RIns.cells), row (.slice A n c) 34 5 n ((tj.map BN).flatMap RBlk.cells)] = L) (n := n - 56) ⟨0, List.replicate (n - 56) 0, rfl, Nat.zero_le _, ⟨rfl, rfl, rfl, rfl, rfl, trivial⟩, by simp, (fun x hx => by rw [(List.mem_replicate.1 hx).2]; unfold IRn; omega), rfl⟩ ?_
    rintro _ σ L ⟨i, pl, rfl, hi2, hs, hpl, hpo, rfl⟩
    refine Cd.has hs ?_
    clear hs
    refine Cd.seq ?_
    refine Cd.seq ?_
    refine Cd.region ?_
    refine Ol.p mvi ?_
    refine Ol.p mvi ?_
    refine Ol.p subi ?_
    refine Ol.p lsi ?_
    refine Ol.nil ?_
    refine Cd.cond rfl (fun h => ?_) (fun h => ?_)
    · have hin : i < n - 56 := by
        have h : decide ((i : Int) < (n : Int) - 56) = true := h
        have := of_decide_eq_true h
        omega
      refine Cd.skip ?_
      refine Cd.seq ?_
      refine Cd.block ?_
      refine Cd.region ?_
      refine Ol.p (fdl fd_api_Func_0) ?_
      refine Ol.p (ld (v := .slice (some ⟨g57, 0, none⟩) (n - 56) (n - 56)) one_L_int (Rd.blk (i := 0) (k := 0) rfl rfl)) ?_
      refine Ol.p mvi ?_
      refine Ol.p mvi ?_
      refine Ol.p subi ?_
      refine Ol.p (ixn1 (ix := i) sl_L_int (Som.row (i := 2) rfl (by omega))) ?_
      refine Ol.s (str (i := 2) (k := i) (v := .int .i64 (200 - (i : Int))) sz_int rfl rfl rfl (by simp [ints]; omega) rfl) ?_
      refine Ol.nil ?_
      refine Cd.region ?_
      refine Ol.p mvi ?_
      refine Ol.p addi ?_
      refine Ol.p asi ?_
      refine Ol.nil ?_
      refine ⟨n - 56 - (i + 1), by omega, i + 1, pl.set i (200 - (i : Int)), rfl, by omega, ⟨rfl, rfl, rfl, rfl, rfl, trivial⟩, by simp [hpl], all_set hpo (by unfold IRn; omega), ?_⟩
      rw [← ints_set]
      rfl
    have hie2 : i = n - 56 := by
      have h : decide ((i : Int) < (n : Int) - 56) = false := h
      have := of_decide_eq_false h
      omega
    refine Cd.exit (id := 6) ?_
    refine Cd.seq ?_
    refine Cd.region ?_
    refine Ol.p mvs ?_
    refine Ol.p (bds (cs := #[.slice none 0 0, .slice A n c]) bs_api_Func zr_api_Func (hf := by kernel_rfl)) ?_
    refine Ol.s (cl (v := .bool true) (vs := [.agg #[.slice none 0 0, .slice A n c]]) en_law03_IrTells (fun M w' hh => tells_bt (tl := tj) hjl hjo hcap (by omega) (Reads.row hh (i := 6) rfl))) ?_
    refine Ol.p noti ?_
    refine Ol.p mvb ?_
    refine Ol.gp rfl (ldw (cs := #[.slice none 0 0, .slice (some ⟨g38, 0, none⟩) 1 1]) ag_api_Func (i := 3) rfl rfl) ?_
    refine Ol.gs rfl (cl (v := .bool true) (vs := [.agg #[.slice none 0 0, .slice (some ⟨g38, 0, none⟩) 1 1]]) en_law03_IrTells (fun M w' hh => tells_at (ps := []) (bl := [⟨some ⟨g35, 0, none⟩, n, il, T4⟩]) rfl rfl (fun b hb => by simp at hb; subst hb; exact hok1) (fun x hx => by cases hx) (Nat.le_refl _) (Nat.le_refl _) (by decide) (by decide) reads_none_ (by have q := Reads.row hh (i := 4) rfl; have e : [RBlk.mk (some ⟨g35, 0, none⟩) n il T4].flatMap RBlk.cells = [.slice (some ⟨g35, 0, none⟩) n n, .int .i64 4, .int .i64 0, .int .i64 0, .int .i64 0] := (by show [Value.slice (some ⟨g35, 0, none⟩) il.length n, _, _, _, _] = _; rw [hil]; rfl); rw [e]; exact q) (fun b hb => by simp at hb; subst hb; show Reads w' _ 8 (some ⟨g35, 0, none⟩) il.length _; rw [hil]; exact Reads.row hh (i := 5) rfl))) ?_
    refine Ol.gp rfl noti ?_
    refine Ol.p (pkFb rfl) ?_
    refine Ol.p mvb ?_
    refine Ol.gp rfl (ldw (cs := #[.slice (some ⟨g57, 0, none⟩) (n - 56) (n - 56), .slice (some ⟨g60, 0, none⟩) 1 1]) ag_api_Func (i := 0) rfl rfl) ?_
    refine Ol.gs rfl (cl (v := .bool true) (vs := [.agg #[.slice (some ⟨g57, 0, none⟩) (n - 56) (n - 56), .slice (some ⟨g60, 0, none⟩) 1 1]]) en_law03_IrTells (fun M w' hh => tells_at (ps := pl) (bl := [BN T4]) hpl rfl (fun b hb => by simp at hb; subst hb; exact okBN okT4) hpo (Nat.le_refl _) (Nat.le_refl _) (by omega) (by decide) (Reads.row hh (i := 2) rfl) (Reads.row hh (i := 1) rfl) (fun b hb => by simp at hb; subst hb; exact reads_none_))) ?_
    refine Ol.gp rfl noti ?_
    refine Ol.p (pkFb rfl) ?_
    refine Ol.nil ?_
    refine Cd.cond rfl (fun h => by cases h) (fun _ => ?_)
    refine Cd.skip ?_
    refine Cd.keep Keep.nil ?_
    refine Cd.region ?_
    refine Ol.p mvi ?_
    refine Ol.p addi ?_
    refine Ol.p asi ?_
    refine Ol.nil ?_
    exact ⟨66 - (n + 1), by omega, n + 1, rfl, by omega, by omega, ⟨rfl, trivial⟩, rfl⟩
  refine Cd.exit (id := 0) ?_
  refine Cd.seq ?_
  refine Cd.seq ?_
  refine Cd.region ?_
  refine Ol.p asi ?_
  refine Ol.nil ?_
  refine Cd.block ?_
  refine Cd.loop (fun m σ L => ∃ n : Nat, m = 203 - n ∧ 198 ≤ n ∧ n ≤ 203 ∧ Has σ [(8, .int .i64 n)] ∧ [] = L) (n := 5) ⟨198, rfl, by omega, by omega, ⟨rfl, trivial⟩, rfl⟩ ?_
  rintro _ σ L ⟨n, rfl, hn1, hn2, hs, rfl⟩
  refine Cd.has hs ?_
  clear hs
  refine Cd.seq ?_
  refine Cd.seq ?_
  refine Cd.region ?_
  refine Ol.p mvi ?_
  refine Ol.p lsi ?_
  refine Ol.nil ?_
  refine Cd.cond rfl (fun h => ?_) (fun h => ?_)
  · have hnl : n < 203 := by
      have h : decide ((n : Int) < 203) = true := h
      have := of_decide_eq_true h
      omega
    have hm1 : (n : Int) - 1 = ((n - 1 : Nat) : Int) := by omega
    refine Cd.skip ?_
    refine Cd.seq ?_
    refine Cd.block ?_
    refine Cd.seq ?_
    refine Cd.region ?_
    refine Ol.p mvi ?_
    refine Ol.x (mks (n := n) (c := n) sl_L_api_Block zr_api_Block) ?_
    rintro _ _ ⟨g93, rfl, rfl⟩
    refine Ol.p ass ?_
    refine Ol.nil ?_
    rw [made_flat (zs := (Value.agg #[.slice none 0 0, .int .i64 0, .int .i64 0, .int .i64 0, .int .i64 0]).cells) (F := RBlk.cells) (s := 5) (z := BN ⟨0, 0, 0, 0⟩) rfl rfl (by decide), show List.replicate n (BN ⟨0, 0, 0, 0⟩) = (List.replicate n ⟨0, 0, 0, 0⟩).map BN by simp]
    refine Cd.seq ?_
    refine Cd.seq ?_
    refine Cd.region ?_
    refine Ol.p asi ?_
    refine Ol.nil ?_
    refine Cd.block ?_
    refine Cd.loop (fun m σ L => ∃ (b : Nat) (tl : List Tm), m = n - b ∧ b ≤ n ∧ Has σ [(8, .int .i64 n), (9, .slice (some ⟨g93, 0, none⟩) n n), (10, .int .i64 b)] ∧ tl.length = n ∧ (∀ t ∈ tl, okT t) ∧ [row (.slice (some ⟨g93, 0, none⟩) n n) 34 5 n ((tl.map BN).flatMap RBlk.cells)] = L) (n := n) ⟨0, List.replicate n ⟨0, 0, 0, 0⟩, rfl, Nat.zero_le _, ⟨rfl, rfl, rfl, trivial⟩, by simp, (fun t ht => by rw [(List.mem_replicate.1 ht).2]; exact okT0), rfl⟩ ?_
    rintro _ σ L ⟨b, tl, rfl, hb, hs, htl, hok, rfl⟩
    refine Cd.has hs ?_
    clear hs
    refine Cd.seq ?_
    refine Cd.seq ?_
    refine Cd.region ?_
    refine Ol.p mvi ?_
    refine Ol.p mvi ?_
    refine Ol.p lsi ?_
    refine Ol.nil ?_
    refine Cd.cond rfl (fun h => ?_) (fun h => ?_)
    · have hbl : b < n := by
        have h : decide ((b : Int) < (n : Int)) = true := h
        have := of_decide_eq_true h
        omega
      refine Cd.skip ?_
      refine Cd.seq ?_
      refine Cd.block ?_
      refine Cd.region ?_
      refine Ol.p mvs ?_
      refine Ol.p mvi ?_
      refine Ol.p mvi ?_
      refine Ol.p addi ?_
      refine Ol.p (bda (cs := #[.int .i64 ((b : Int) + 1), .int .i64 0]) ar_A2_int zr_A2_int (hf := by kernel_rfl)) ?_
      refine Ol.p (bds (cs := (Tm.cells ⟨1, 0, (b : Int) + 1, 0⟩).toArray) bs_api_Term zr_api_Term (hf := by kernel_rfl)) ?_
      refine Ol.p (ixn (ix := b) sl_L_api_Block (Som.row (i := 0) rfl (by omega))) ?_
      refine Ol.p (fdp fd_api_Block_1) ?_
      refine Ol.s (stra (i := 0) (k := b * 5 + 1) (m := 4) (vs := (Tm.cells ⟨1, 0, (b : Int) + 1, 0⟩).toArray) sz_api_Term rfl (by decide) (tm_one _) rfl (by rw [bt_len]; omega)) ?_
      refine Ol.nil ?_
      refine Cd.region ?_
      refine Ol.p mvi ?_
      refine Ol.p addi ?_
      refine Ol.p asi ?_
      refine Ol.nil ?_
      refine ⟨n - (b + 1), by omega, b + 1, tl.set b ⟨1, 0, (b : Int) + 1, 0⟩, rfl, by omega, ⟨rfl, rfl, rfl, trivial⟩, by simp [htl], all_set hok (okJ (by omega)), ?_⟩
      rw [← bt_store (by omega)]
      rfl
    have hbe : b = n := by
      have h : decide ((b : Int) < (n : Int)) = false := h
      have := of_decide_eq_false h
      omega
    refine Cd.exit (id := 10) ?_
    refine Cd.seq ?_
    refine Cd.region ?_
    refine Ol.p mvs ?_
    refine Ol.p mvi ?_
    refine Ol.p subi ?_
    refine Ol.p (bds (cs := T4.cells.toArray) bs_api_Term zr_api_Term (hf := by kernel_rfl)) ?_
    refine Ol.p (ixn (ix := n - 1) sl_L_api_Block (Som.row (i := 0) rfl (by omega)) (hy := congrArg (Value.int .i64) hm1)) ?_
    refine Ol.p (fdp fd_api_Block_1) ?_
    refine Ol.s (stra (i := 0) (k := (n - 1) * 5 + 1) (m := 4) (vs := T4.cells.toArray) sz_api_Term rfl (by decide) (tm_one _) rfl (by rw [bt_len]; omega)) ?_
    refine Ol.nil ?_
    show On (Cd _ _ _) _ _ _ [row (.slice (some ⟨g93, 0, none⟩) n n) 34 5 n (((tl.map BN).flatMap RBlk.cells).take ((n - 1) * 5 + 1) ++ T4.cells ++ ((tl.map BN).flatMap RBlk.cells).drop ((n - 1) * 5 + 1 + 4))]
    rw [bt_store (by omega)]
    obtain ⟨tj, htj⟩ : ∃ tj, tj = tl.set (n - 1) T4 := ⟨_, rfl⟩
    have hjl : tj.length = n := by rw [htj, List.length_set]; exact htl
    have hjo : ∀ t ∈ tj, okT t := by rw [htj]; exact all_set hok okT4
    rw [← htj]
    clear htj
    refine Cd.seq ?_
    refine Cd.region ?_
    refine Ol.p mvs ?_
    refine Ol.p (bds (cs := #[.slice none 0 0, .slice (some ⟨g93, 0, none⟩) n n]) bs_api_Func zr_api_Func (hf := by kernel_rfl)) ?_
    refine Ol.s (cl (v := .bool true) (vs := [.agg #[.slice none 0 0, .slice (some ⟨g93, 0, none⟩) n n]]) en_law03_IrTells (fun M w' hh => tells_bt (tl := tj) hjl hjo (Nat.le_refl _) (by omega) (Reads.row hh (i := 0) rfl))) ?_
    refine Ol.p noti ?_
    refine Ol.nil ?_
    refine Cd.cond rfl (fun h => by cases h) (fun _ => ?_)
    refine Cd.skip ?_
    refine Cd.keep Keep.nil ?_
    refine Cd.region ?_
    refine Ol.p mvi ?_
    refine Ol.p addi ?_
    refine Ol.p asi ?_
    refine Ol.nil ?_
    exact ⟨203 - (n + 1), by omega, n + 1, rfl, by omega, by omega, ⟨rfl, trivial⟩, rfl⟩
  refine Cd.exit (id := 8) ?_
  refine Cd.seq ?_
  refine Cd.region ?_
  refine Ol.p (bds (cs := #[.slice none 0 0, .slice none 0 0]) bs_api_Func zr_api_Func (hf := by kernel_rfl)) ?_
  refine Ol.s (cl (v := .bool true) (vs := [.agg #[.slice none 0 0, .slice none 0 0]]) en_law03_IrTells (fun M w' hh => tells_bt (tl := []) rfl (fun t ht => by cases ht) (Nat.le_refl _) (by decide) reads_none_)) ?_
  refine Ol.p asb ?_
  refine Ol.nil ?_
  exact Cd.ret ⟨.bool true, ret1 rfl rfl, [], Keep.nil, rfl, rfl⟩
theorem law03_IrEnds_all {w : World} : Ct Tryz.prog 3 #[] w (Is (.bool true)) := law03_IrEnds_ct fun w' => law03_long_ct
end
end Go.Proofs.YtcojedoejpcolaaGreat

/- IrEnds: for every input that can be read, the law IrEnds returns true and its arguments read as before. Conditions: the row. -/
namespace Go.Proofs.YtcojedoejpcolaaGreat
set_option linter.unusedVariables false
open Go Go.ChangeShapes Go.WideShapes Go.ChangeAt Go.RowKit
set_option maxRecDepth 100000

theorem irEnds_lifted (os : Os) (started : os.Started) (H : Type) (enc : TypeId × Value → H) :
    ReturnsInHanded {} Tryz.checked os 3 .any (Rows.irEndsSpec.pre6 enc Tryz.prog Tryz.f3 Rows.irEndsRow.domain false) (Rows.irEndsSpec.post enc Tryz.prog Tryz.f3 false true false false) := by
  refine returnsInHanded_of_change_sized (C := Tryz.checked) own_ started (by kernel_rfl) Tryz.func3
    (ChangeSpec.witness6 (enc := enc) (C := Tryz.checked) false ⟨#[], #[], []⟩ 8 (by kernel_rfl) (by kernel_rfl) (by kernel_rfl) (by kernel_rfl)) ?_
  intro W base args ds gs before hval0 hW _ hsz0 _
  have hval : ∀ (j : Nat) t v, Tryz.f3.params[j]? = some t → args[j]? = some v → Value.okWide Tryz.prog W .any base t v := hval0
  have hW' := hW
  obtain ⟨p, q, hA0, hV, rfl, hfz, hnd⟩ := hW
  have hA : DataW.TrodAll enc Tryz.prog W 0 (fun _ => true) true Tryz.f3.params.toList args.toList ds p := hA0
  have hsz : (DataW.weightsEach Tryz.prog (Tryz.f3.params.toList ++ Rows.irEndsSpec.plain.varTypes Tryz.prog) (ds ++ gs)).all (· ≤ reachBytes) = true := hsz0
  rw [Tryz.params3] at hA hval hsz
  obtain ⟨hargs, rfl, rfl⟩ := trodAll_nil hA
  obtain rfl : args = #[] := by cases args; simp_all
  obtain ⟨rfl, rfl⟩ := trodVars_none hV
  clear hA0 hval0
  refine ((law03_IrEnds_all ).calls).mono fun e W' ⟨v, he, L, hh, hv, _⟩ => ?_
  subst hv
  subst he
  have bel := hh.below
  exact ⟨_, rfl, _, _, _, [], _, [], hW', trodAll_mk1 (shut_bool Tryz.underlying4 _), trodAll_mk0, rfl, bel.frame _, fun h => by cases h⟩
theorem irEnds_said : Rows.IrEndsSaid :=
  OpenClaim.holds_of_wide 3 Tryz.f3 rfl rfl rfl rfl rfl rfl rfl ⟨rfl, rfl, rfl, rfl, rfl⟩ rfl rfl rfl rfl rfl (by kernel_rfl) Tryz.func3 (by kernel_rfl)
    (of_decide_eq_true (by kernel_rfl)) (by unfold Func.isWrapper; rw [if_neg (of_decide_eq_false (by kernel_rfl))]; exact ⟨rfl, rfl⟩)
    (fun os started H enc _ => irEnds_lifted os started H enc)
end Go.Proofs.YtcojedoejpcolaaGreat

