/- Part 5 of the proof of RunEndsC: the texts Ref08G, Ref08H, Same, TermEq, SameF, Lent, Grow, FlatL, RefH, IrTells, IrLit, RowSt, Over, RunDoes, RunDoesW, RunNone, one behind the other. -/
import Derived.Test.YtjenaenakopicaaGreatRunEndsCM4
/- Reference 08: a run begins, and goes, walked. -/
namespace Go.Proofs.YtjenaenakopicaaGreat
set_option linter.unusedVariables false
set_option linter.unusedSimpArgs false
open Go Go.RowKit
set_option maxRecDepth 100000
/-- A right function, as its run asks for. -/
structure Right8 (f : RFun) : Prop where
  fine : Fine f
  all : ∀ b ∈ f.blocks, b.ins.all isIns = true
  term : ∀ b ∈ f.blocks, isTerm b.term = true
  par : ∀ p ∈ f.params, 1 ≤ p ∧ p ≤ 200
theorem Right8.of {f : RFun} (h : rightF f = 0) (ha : ∀ b ∈ f.blocks, ∀ i ∈ b.ins, i.args.length < 2 ^ 43) : Right8 f := by
  obtain ⟨h1, h2, _, h4, h5⟩ := rightF_iff.1 h
  unfold wholeF at h2
  simp only [Bool.and_eq_true, List.all_eq_true] at h2
  refine ⟨Fine.of h ha, fun b hb => ?_, fun b hb => ?_, fun p hp => varB_iff.1 (h2.1.1 p hp)⟩
  · have := h2.2 b hb
    unfold wholeB at this
    simp only [Bool.and_eq_true] at this
    exact this.2
  · have := h2.2 b hb
    unfold wholeB at this
    simp only [Bool.and_eq_true] at this
    exact this.1
def w0S (mem ans : List Int) : RSt := ⟨fun _ => none, 0, 0, 0, 0, mem, ans, [], 0⟩
section
theorem wC_build {A B C D : Option Addr} {a b c d m n k l : Nat} {mem ans : List Int} : Instr.fill (fun i => ([(0, 2), (2, 201), (203, 201), (404, 1), (405, 1), (406, 1), (407, 1), (408, 1), (409, 1), (410, 1), (411, 1)] : List (Nat × Nat))[i]?) (Value.agg (wC (.slice none 0 0) (.slice none 0 0) (.slice none 0 0) (.slice none 0 0) (.slice none 0 0) (w0S [] []))).cells [(0, .agg #[.slice A a m, .slice B b n]), (3, .slice C c k), (4, .slice D d l)] = some (wC (.slice A a m) (.slice B b n) (.slice C c k) (.slice D d l) (.slice none 0 0) (w0S mem ans)) := by
  kernel_rfl
theorem zr_ref08_w : ZrT Tryz.prog 84 (.agg (wC (.slice none 0 0) (.slice none 0 0) (.slice none 0 0) (.slice none 0 0) (.slice none 0 0) (w0S [] []))) := .mk (by kernel_rfl)
end
section
def fF0 (f : RFun) : Value := .slice f.pA f.params.length f.pC
def fF1 (f : RFun) : Value := .slice f.bA f.blocks.length f.bC
def WBeg (f : RFun) (args mem ans : List Int) : Value → List Res → Prop := fun v R =>
  (okB f args mem ∧ ∃ y : RLay, (∀ w0 B, WOk w0 B y (begS f args mem ans)) ∧ v = .tuple #[.pointer (some ⟨y.gR, 0, none⟩), .int .i64 0] ∧ R = wL (fF0 f) (fF1 f) y (begS f args mem ans)) ∨
  (¬ okB f args mem ∧ v = .tuple #[.pointer none, .int .i64 2] ∧ R = [])
set_option maxHeartbeats 4000000 in
theorem ref08_Begin_ct {w : World} {f : RFun} {aA mA nA : Option Addr} {aC mC nC : Nat} {args mem ans : List Int} (hf : FunAt w w.heap.size f) (hfit : Fit f)
    (ha : Reads w w.heap.size 1 aA args.length (ints args)) (hm : Reads w w.heap.size 1 mA mem.length (ints mem)) (hn : Reads w w.heap.size 1 nA ans.length (ints ans)) (hml : mem.length < 2 ^ 43) (hnl : ans.length < 2 ^ 43) :
    Ct Tryz.prog 19 #[f.val, .slice aA args.length aC, .slice mA mem.length mC, .slice nA ans.length nC] w (WBeg f args mem ans) := by
  refine Ct.mk Tryz.func19 rfl rfl ?_
  refine Cd.seq ?_
  refine Cd.region ?_
  refine Ol.x bxg ?_
  rintro _ _ ⟨g4, rfl, rfl⟩
  refine Ol.p asp ?_
  refine Ol.p asi ?_
  refine Ol.nil ?_
  refine Cd.seq ?_
  refine Cd.mid (fun σ' L' => Has σ' [(1, .slice aA args.length aC), (2, .slice mA mem.length mC), (3, .slice nA ans.length nC), (4, .pointer (some ⟨g4, 0, none⟩)), (27, .bool (decide (¬ okB f args mem)))] ∧ [blk g4 (.cells f.cells.toArray 37)] = L') ?_ ?_
  · cases h3 : !decide (rightF f = 0) with
    | true =>
      have h11 : true = true := rfl
      refine Cd.region ?_
      refine Ol.p (ldw (cs := f.cells.toArray) ag_api_Func (i := 0) rfl rfl) ?_
      refine Ol.s (cl en_ref03_Right (fun M w' hh => ref03_Right_ct (hf.now hh) hfit)) ?_
      refine Ol.p nei ?_
      refine Ol.p mvb ?_
      refine Ol.gn h3 ?_
      refine Ol.gn h3 ?_
      refine Ol.gn h3 ?_
      refine Ol.gn h3 ?_
      refine Ol.gn h3 ?_
      refine Ol.gn h3 ?_
      refine Ol.p (pkTb h3) ?_
      refine Ol.p mvb ?_
      refine Ol.gn h11 ?_
      refine Ol.gn h11 ?_
      refine Ol.gn h11 ?_
      refine Ol.p (pkTb h11) ?_
      refine Ol.nil ?_
      refine ⟨⟨rfl, rfl, rfl, rfl, congrArg Value.bool ?_, trivial⟩, rfl⟩
      have : rightF f ≠ 0 := by simpa using h3
      simp [okB, this]
    | false =>
      have hr : rightF f = 0 := by simpa using h3
      cases h11 : !decide ((args.length : Int) = (f.params.length : Int)) with
      | true =>
        refine Cd.region ?_
        refine Ol.p (ldw (cs := f.cells.toArray) ag_api_Func (i := 0) rfl rfl) ?_
        refine Ol.s (cl en_ref03_Right (fun M w' hh => ref03_Right_ct (hf.now hh) hfit)) ?_
        refine Ol.p nei ?_
        refine Ol.p mvb ?_
        refine Ol.gp h3 mvs ?_
        refine Ol.gp h3 (lens sl_L_int) ?_
        refine Ol.gp h3 (fdl fd_api_Func_0) ?_
        refine Ol.gp h3 (ld (v := .slice f.pA f.params.length f.pC) one_L_int (Rd.blk (i := 0) rfl rfl)) ?_
        refine Ol.gp h3 (lens sl_L_int) ?_
        refine Ol.gp h3 nei ?_
        refine Ol.p (pkFb h3) ?_
        refine Ol.p mvb ?_
        refine Ol.gn h11 ?_
        refine Ol.gn h11 ?_
        refine Ol.gn h11 ?_
        refine Ol.p (pkTb h11) ?_
        refine Ol.nil ?_
        refine ⟨⟨rfl, rfl, rfl, rfl, congrArg Value.bool ?_, trivial⟩, rfl⟩
        have : ¬ args.length = f.params.length := by
          intro he; rw [he] at h11; simp at h11
        simp [okB, this]
      | false =>
        refine Cd.region ?_
        refine Ol.p (ldw (cs := f.cells.toArray) ag_api_Func (i := 0) rfl rfl) ?_
        refine Ol.s (cl en_ref03_Right (fun M w' hh => ref03_Right_ct (hf.now hh) hfit)) ?_
        refine Ol.p nei ?_
        refine Ol.p mvb ?_
        refine Ol.gp h3 mvs ?_
        refine Ol.gp h3 (lens sl_L_int) ?_
        refine Ol.gp h3 (fdl fd_api_Func_0) ?_
        refine Ol.gp h3 (ld (v := .slice f.pA f.params.length f.pC) one_L_int (Rd.blk (i := 0) rfl rfl)) ?_
        refine Ol.gp h3 (lens sl_L_int) ?_
        refine Ol.gp h3 nei ?_
        refine Ol.p (pkFb h3) ?_
        refine Ol.p mvb ?_
        refine Ol.gp h11 mvs ?_
        refine Ol.gp h11 (lens sl_L_int) ?_
        refine Ol.gp h11 gti ?_
        refine Ol.p (pkFb h11) ?_
        refine Ol.nil ?_
        refine ⟨⟨rfl, rfl, rfl, rfl, congrArg Value.bool ?_, trivial⟩, rfl⟩
        have h2 : args.length = f.params.length := by
          have : (args.length : Int) = (f.params.length : Int) := by simpa using h11
          omega
        simp only [okB, hr, h2, true_and]
        by_cases hc : mem.length ≤ 64
        · have : ¬ ((mem.length : Int) > 64) := by omega
          simp [hc]
          omega
        · simp [hc]
          omega
  rintro σ' _ ⟨hs', rfl⟩
  refine Cd.has hs' ?_
  clear hs'
  refine Cd.cond rfl (fun h => ?_) (fun h => ?_)
  · have hno : ¬ okB f args mem := of_decide_eq_true h
    refine Cd.seq ?_
    refine Cd.region ?_
    refine Ol.p asp ?_
    refine Ol.p asi ?_
    refine Ol.nil ?_
    exact Cd.ret ⟨.tuple #[.pointer none, .int .i64 2], ret2 rfl rfl rfl, _, .sub (.cons _ .slnil), .inr ⟨hno, rfl, rfl⟩⟩
  have hyes : okB f args mem := Classical.not_not.1 (of_decide_eq_false h)
  obtain ⟨hr0, hapl, hm64⟩ := hyes
  have hpar : ∀ p ∈ f.params, 1 ≤ p ∧ p ≤ 200 := by
    obtain ⟨_, h2, _⟩ := rightF_iff.1 hr0
    unfold wholeF at h2
    simp only [Bool.and_eq_true, List.all_eq_true] at h2
    exact fun p hp => varB_iff.1 (h2.1.1 p hp)
  have hp8 := (long_parts (rightF_iff.1 hr0).1).2.2.1
  refine Cd.skip ?_
  refine Cd.seq ?_
  refine Cd.drawT (L0 := [blk g4 (.cells f.cells.toArray 37)]) mixed 7 (fun opNo => match opNo with | 1 => some (NewSv 3 1 0 0 []) | 3 => some (NewL 3 1 mem.length (ints mem)) | 4 => some (NewSv 3 1 0 0 []) | 6 => some (NewL 3 1 ans.length (ints ans)) | _ => none) (fun opNo => match opNo with | 3 => [1] | 6 => [4] | _ => []) (fun opNo => match opNo with | 3 => some 1 | 6 => some 4 | _ => none) [] (fun _ => []) (by kernel_rfl) (.refl _) (by intro c hc; cases hc) (by intro q V h; split at h <;> cases h; exact ⟨_, _, 0, rfl, rfl⟩; exact ⟨_, _, none, 0, rfl, rfl⟩; exact ⟨_, _, 0, rfl, rfl⟩; exact ⟨_, _, none, 0, rfl, rfl⟩) (fun u hu hu0 => ?_)
  refine WkT.p (ldw (cs := f.cells.toArray) ag_api_Func (i := 0) rfl rfl) ?_
  refine WkT.xn (V := NewSv 3 1 0 0 []) (l := []) (l2 := []) hu rfl rfl rfl (by rw [needs_none]; exact (NewS.adds (bsv [] sl_L_int zr_int (by simp)))) ?_
  rintro _ _ hu1 ⟨g29, rfl, rfl⟩
  refine WkT.p mvs ?_
  refine WkT.xn (V := NewL 3 1 mem.length (ints mem)) (l := [1]) (l2 := []) hu rfl rfl rfl (by rw [needs_cons hu1, needs_none]; exact (ap0 sl_L_int zr_int rfl (by decide) (Src.slc hm) (ints_one _) (by unfold maxLen; omega) (by omega))) ?_
  rintro _ _ hu3 ⟨A31, c31, rfl, rfl⟩
  refine WkT.xn (V := NewSv 3 1 0 0 []) (l := []) (l2 := []) hu rfl rfl rfl (by rw [needs_none]; exact (NewS.adds (bsv [] sl_L_int zr_int (by simp)))) ?_
  rintro _ _ hu4 ⟨g32, rfl, rfl⟩
  refine WkT.p mvs ?_
  refine WkT.xn (V := NewL 3 1 ans.length (ints ans)) (l := [4]) (l2 := []) hu rfl rfl rfl (by rw [needs_cons hu4, needs_none]; exact (ap0 sl_L_int zr_int rfl (by decide) (Src.slc hn) (ints_one _) (by unfold maxLen; omega) (by omega))) ?_
  rintro _ _ hu6 ⟨A34, c34, rfl, rfl⟩
  refine WkT.nil ?_
  change Ol _ _ _ _ _ (needs u [6, 3] _)
  rw [needs_cons hu6, needs_cons hu3, needs_none]
  refine Ol.p (bds (cs := wC (fF0 f) (fF1 f) (.slice A31 mem.length c31) (.slice A34 ans.length c34) (.slice none 0 0) (w0S mem ans)) bs_ref08_Run zr_ref08_w (hf := wC_build)) ?_
  refine Ol.x bxg ?_
  rintro _ _ ⟨gR, rfl, rfl⟩
  refine Ol.p asp ?_
  refine Ol.nil ?_
  refine Cd.cap (i := 1) rfl fun hcap => ?_
  obtain ⟨y0, hy0⟩ : ∃ y0 : RLay, y0 = ⟨gR, 0, #[], 0, A31, c31, A34, c34, none, 0, [], f, row (.slice A34 ans.length c34) 3 1 ans.length (ints ans)⟩ := ⟨_, rfl⟩
  refine Cd.nr 106 2 ?_
  refine Cd.keep (L' := blk g4 (.cells f.cells.toArray 37) :: wL (fF0 f) (fF1 f) y0 (w0S mem ans)) (keep_count [] fun _ x => by
    have e2 : wL (fF0 f) (fF1 f) y0 (w0S mem ans) = blk gR (.cells (wC (fF0 f) (fF1 f) (.slice A31 mem.length c31) (.slice A34 ans.length c34) (.slice none 0 0) (w0S mem ans)) 84) :: row (.slice A31 mem.length c31) 3 1 mem.length (ints mem) :: row (.slice A34 ans.length c34) 3 1 ans.length (ints ans) :: row (.slice none 0 0) 106 2 0 [] :: [] := by rw [hy0]; rfl
    rw [e2]
    simp only [List.count_append, List.count_cons, List.count_nil, List.cons_append, List.nil_append, List.append_nil]
    omega) ?_
  refine Cd.seq ?_
  refine Cd.seq ?_
  refine Cd.region ?_
  refine Ol.p asi ?_
  refine Ol.nil ?_
  refine Cd.block ?_   -- 0
  have hok0 : ∀ w0 B v, WOk w0 B y0 { w0S mem ans with vars := v } := fun w0 B v => by
    rw [hy0]
    exact ⟨rfl, RdS.row (i := 0) rfl, hcap⟩
  have hyg : y0.gR = gR := by rw [hy0]
  rw [← hyg]
  refine Cd.loop (fun m σ L => ∃ (k : Nat), m = args.length - k ∧ k ≤ args.length ∧ Has σ [(1, .slice aA args.length aC), (4, .pointer (some ⟨g4, 0, none⟩)), (10, .pointer (some ⟨y0.gR, 0, none⟩)), (11, .int .i64 k)] ∧ blk g4 (.cells f.cells.toArray 37) :: wL (fF0 f) (fF1 f) y0 { w0S mem ans with vars := begV ((f.params.zip args).take k) } = L) (n := args.length) ⟨0, rfl, Nat.zero_le _, ⟨rfl, rfl, rfl, rfl, trivial⟩, rfl⟩ ?_
  rintro _ σ L ⟨k, rfl, hk, hs, rfl⟩
  refine Cd.has hs ?_
  clear hs
  refine Cd.seq ?_
  refine Cd.seq ?_
  refine Cd.region ?_
  refine Ol.p mvi ?_
  refine Ol.p mvs ?_
  refine Ol.p (lens sl_L_int) ?_
  refine Ol.p lsi ?_
  refine Ol.nil ?_
  refine Cd.cond rfl (fun h => ?_) (fun h => ?_)   -- $40
  · have hlt : k < args.length := by
      simp only [decide_eq_true_eq] at h; omega
    obtain ⟨p, hpk⟩ : ∃ p, f.params[k]? = some p := ⟨_, List.getElem?_eq_getElem (by omega)⟩
    obtain ⟨a, hak⟩ : ∃ a, args[k]? = some a := ⟨_, List.getElem?_eq_getElem hlt⟩
    have hz : (f.params.zip args)[k]? = some (p, a) := List.getElem?_zip_eq_some.2 ⟨hpk, hak⟩
    have hpr := hpar p (List.mem_of_getElem? hpk)
    obtain ⟨pk, rfl⟩ : ∃ pk : Nat, p = (pk : Int) := ⟨p.toNat, by omega⟩
    obtain ⟨sk, hsk⟩ : ∃ sk : RSt, sk = { w0S mem ans with vars := begV ((f.params.zip args).take k) } := ⟨_, rfl⟩
    rw [← hsk]
    refine Cd.skip ?_
    refine Cd.seq ?_
    refine Cd.block ?_   -- 1
    refine Cd.draw mixed 10 (fun _ => none) (fun _ => []) (by kernel_rfl) (fun _ _ h => by cases h) (fun u hu => ?_)
    refine Wk.p mvp ?_
    refine Wk.p (fdl fd_api_Func_0) ?_
    refine Wk.p (ld (v := .slice f.pA f.params.length f.pC) one_L_int (Rd.blk (i := 0) (k := 0) rfl rfl)) ?_
    refine Wk.p mvi ?_
    refine Wk.p (ixn1 (ix := k) sl_L_int (Som.slc hf.params (by omega))) ?_
    refine Wk.p (ld (v := .int .i64 (pk : Int)) one_int (Rd.slc hf.params (ints_at hpk))) ?_
    refine Wk.p mvs ?_
    refine Wk.p mvi ?_
    refine Wk.p (ixn1 (ix := k) sl_L_int (Som.slc ha (by omega))) ?_
    refine Wk.p (ld (v := .int .i64 a) one_int (Rd.slc ha (ints_at hak))) ?_
    refine Wk.nil ?_
    refine Ol.x (sp_callm (vs := [.pointer (some ⟨y0.gR, 0, none⟩), .int .i64 (pk : Int), .int .i64 a]) (Lin := [wB (fF0 f) (fF1 f) y0 sk]) (L2 := blk g4 (.cells f.cells.toArray 37) :: memRow y0 sk :: y0.a0 :: callRow y0 sk :: y0.recs.map callRes) en_P_ref08_Run_set (List.Perm.swap _ _ _) (ref08_set_cm (by omega) (by omega))) ?_
    rintro _ _ ⟨_, rfl, rfl, rfl⟩
    refine Ol.nil ?_
    have hnx : ({ sk with vars := updI sk.vars (pk : Int) a } : RSt) = { w0S mem ans with vars := begV ((f.params.zip args).take (k + 1)) } := by
      rw [take_snoc_ hz, begV_snoc, hsk]
    rw [hnx]
    refine Cd.keep (L' := blk g4 (.cells f.cells.toArray 37) :: wL (fF0 f) (fF1 f) y0 { w0S mem ans with vars := begV ((f.params.zip args).take (k + 1)) }) ⟨[], by rw [List.append_nil, hsk]; exact List.Perm.swap _ _ _⟩ ?_
    refine Cd.region ?_
    refine Ol.p mvi ?_
    refine Ol.p addi ?_
    refine Ol.p asi ?_
    refine Ol.nil ?_
    exact ⟨args.length - (k + 1), by omega, k + 1, rfl, by omega, ⟨rfl, rfl, rfl, rfl, trivial⟩, rfl⟩
  have hke : k = args.length := by
    simp only [decide_eq_false_iff_not] at h; omega
  refine Cd.exit (id := 0) ?_
  refine Cd.seq ?_
  refine Cd.region ?_
  refine Ol.p mvp ?_
  refine Ol.p asp ?_
  refine Ol.p asi ?_
  refine Ol.nil ?_
  have hbeg : ({ w0S mem ans with vars := begV ((f.params.zip args).take k) } : RSt) = begS f args mem ans := by
    rw [List.take_of_length_le (by rw [List.length_zip]; omega)]
    rfl
  rw [hbeg]
  refine Cd.ret ⟨.tuple #[.pointer (some ⟨y0.gR, 0, none⟩), .int .i64 0], ret2 rfl rfl rfl, _, .sub (.cons _ (List.Sublist.refl _)), .inl ⟨⟨hr0, hapl, hm64⟩, y0, fun w0 B => hok0 w0 B _, rfl, rfl⟩⟩
end
section
def WGo (w0 : World) (B : Nat) (f : RFun) (args mem ans : List Int) (n : Int) : Value → List Res → Prop := fun v R =>
  (okB f args mem ∧ n ≤ 20000 ∧ ∃ y : RLay, WOk w0 B y (goS f (begS f args mem ans) n.toNat) ∧ v = .tuple #[.pointer (some ⟨y.gR, 0, none⟩), .int .i64 0] ∧ R = wL (fF0 f) (fF1 f) y (goS f (begS f args mem ans) n.toNat)) ∨
  (¬ okB f args mem ∧ v = .tuple #[.pointer none, .int .i64 2] ∧ R = []) ∨ (okB f args mem ∧ 20000 < n ∧ v = .tuple #[.pointer none, .int .i64 3] ∧ R = [])
/-- One more step of the reference's run, standing or ended. -/
theorem ref08_Step_any {w0 : World} {B : Nat} {f : RFun} {F0 : Value} {y : RLay} {s : RSt} {k : Nat} (hf : FunAt w0 B f) (hR : Right8 f) (hrun : Runs f s k) (hk8 : Keeps8 s) (hbl : f.blocks.length < 2 ^ 50) (hok : WOk w0 B y s) (hk : k < 2 ^ 36) :
    Cm Tryz.prog 25 #[.pointer (some ⟨y.gR, 0, none⟩)] w0 B (wL F0 (fF1 f) y s) (WTo w0 B F0 (fF1 f) y (goS f s 1) (.bool (decide (s.e = 0)))) := by
  have h1 := hrun.steps
  have h2 := hrun.calls
  by_cases he : s.e = 0
  · obtain ⟨b, hb, hi⟩ := hrun.stand he
    have hbm := List.mem_of_getElem? hb
    have hi64 := hR.fine.ins b hbm
    rw [decide_eq_true he, show goS f s 1 = stepR f s from if_pos he]
    exact ref08_Step_cm hf hok hk8 he hb hi (by omega) hbl (hR.all b hbm) (hR.term b hbm) (fun bb ii hx => by obtain ⟨h1, h2, _⟩ := stepB_spot hR.fine hb hi hx; exact ⟨h1, h2⟩) (by omega) (by omega)
  · rw [decide_eq_false he, goS_end he]
    exact ref08_Step_end_cm hok he
theorem Keeps8.go {f : RFun} (hR : Right8 f) {s : RSt} {k : Nat} (hrun : Runs f s k) (h : Keeps8 s) : Keeps8 (goS f s 1) := by
  by_cases he : s.e = 0
  · obtain ⟨b, hb, hi⟩ := hrun.stand he
    rw [show goS f s 1 = stepR f s from if_pos he]
    exact h.step hR.all hb he
  · rw [goS_end he]
    exact h
set_option maxHeartbeats 4000000 in
theorem ref08_Go_ct {w : World} {f : RFun} {aA mA nA : Option Addr} {aC mC nC : Nat} {args mem ans : List Int} {n : Int} (hf : FunAt w w.heap.size f) (hfit : Fit f) (hal : ∀ b ∈ f.blocks, ∀ i ∈ b.ins, i.args.length < 2 ^ 43)
    (ha : Reads w w.heap.size 1 aA args.length (ints args)) (hm : Reads w w.heap.size 1 mA mem.length (ints mem)) (hn : Reads w w.heap.size 1 nA ans.length (ints ans)) (hml : mem.length < 2 ^ 43) (hnl : ans.length < 2 ^ 43) :
    Ct Tryz.prog 16 #[f.val, .slice aA args.length aC, .slice mA mem.length mC, .slice nA ans.length nC, .int .i64 n] w (WGo w w.heap.size f args mem ans n) := by
  refine Ct.mk Tryz.func16 rfl rfl ?_
  refine Cd.seq ?_
  refine Cd.region ?_
  refine Ol.x bxg ?_
  rintro _ _ ⟨g5, rfl, rfl⟩
  refine Ol.p asp ?_
  refine Ol.p asi ?_
  refine Ol.nil ?_
  refine Cd.seq ?_
  refine Cd.region ?_
  refine Ol.p (ldw (cs := f.cells.toArray) ag_api_Func (i := 0) rfl rfl) ?_
  refine Ol.p mvs ?_
  refine Ol.p mvs ?_
  refine Ol.p mvs ?_
  refine Ol.x (sp_call en_ref08_Begin (fun M w' hh => ref08_Begin_ct (args := args) (mem := mem) (ans := ans) (hf.now hh) hfit (ha.now hh) (hm.now hh) (hn.now hh) hml hnl)) ?_
  rintro _ _ ⟨R, rfl, hR⟩
  rcases hR with ⟨hok, y, hro, rfl, rfl⟩ | ⟨hno, rfl, rfl⟩
  rotate_left
  · skip
    refine Ol.p mvt ?_
    refine Ol.p extv ?_
    refine Ol.p extv ?_
    refine Ol.p asp ?_
    refine Ol.p asi ?_
    refine Ol.nil ?_
    refine Cd.seq ?_
    refine Cd.seq ?_
    refine Cd.region ?_
    refine Ol.p mvi ?_
    refine Ol.p nei ?_
    refine Ol.nil ?_
    refine Cd.cond rfl (fun h => ?_) (fun h => nomatch h)   -- $24
    refine Cd.seq ?_
    refine Cd.region ?_
    refine Ol.p mvi ?_
    refine Ol.p asp ?_
    refine Ol.p asi ?_
    refine Ol.nil ?_
    exact Cd.ret ⟨.tuple #[.pointer none, .int .i64 2], ret2 rfl rfl rfl, [], Keep.nil, .inr (.inl ⟨hno, rfl, rfl⟩)⟩
  refine Ol.p mvt ?_
  refine Ol.p extv ?_
  refine Ol.p extv ?_
  refine Ol.p asp ?_
  refine Ol.p asi ?_
  refine Ol.nil ?_
  refine Cd.keep Keep.comm ?_
  refine Cd.seq ?_
  refine Cd.seq ?_
  refine Cd.region ?_
  refine Ol.p mvi ?_
  refine Ol.p nei ?_
  refine Ol.nil ?_
  refine Cd.cond rfl (fun h => nomatch h) (fun h => ?_)   -- $24
  refine Cd.skip ?_
  refine Cd.seq ?_
  refine Cd.seq ?_
  refine Cd.region ?_
  refine Ol.p mvi ?_
  refine Ol.p gti ?_
  refine Ol.nil ?_
  refine Cd.cond rfl (fun h => ?_) (fun h => ?_)   -- $27
  · have hlong : 20000 < n := of_decide_eq_true h
    refine Cd.seq ?_
    refine Cd.region ?_
    refine Ol.p asp ?_
    refine Ol.p asi ?_
    refine Ol.nil ?_
    exact Cd.ret ⟨.tuple #[.pointer none, .int .i64 3], ret2 rfl rfl rfl, [], Keep.nil, .inr (.inr ⟨hok, hlong, rfl, rfl⟩)⟩
  have hn20 : n ≤ 20000 := by
    have : ¬ 20000 < n := of_decide_eq_false h
    omega
  have hR8 : Right8 f := Right8.of hok.1 hal
  have hRuns : Runs f (begS f args mem ans) 0 := Runs.beg hR8.fine hok.2.2
  have hbl : f.blocks.length < 2 ^ 50 := hfit.blen
  refine Cd.skip ?_
  refine Cd.seq ?_
  refine Cd.seq ?_
  refine Cd.region ?_
  refine Ol.p asi ?_
  refine Ol.nil ?_
  refine Cd.block ?_   -- 0
  refine Cd.loop (fun m σ L => ∃ (k : Nat) (y' : RLay) (s : RSt), m = n.toNat - k ∧ k ≤ n.toNat ∧ WOk w w.heap.size y' s ∧ Runs f s k ∧ Keeps8 s ∧ goS f s (n.toNat - k) = goS f (begS f args mem ans) n.toNat ∧ Has σ [(4, .int .i64 n), (12, .pointer (some ⟨y'.gR, 0, none⟩)), (14, .int .i64 k)] ∧ [blk g5 (.cells f.cells.toArray 37)] ++ wL (fF0 f) (fF1 f) y' s = L) (n := n.toNat) ⟨0, y, begS f args mem ans, rfl, Nat.zero_le _, hro _ _, hRuns, Keeps8.beg hR8.par, rfl, ⟨rfl, rfl, rfl, trivial⟩, rfl⟩ ?_
  rintro _ σ L ⟨k, y', s, rfl, hk, hro', hR', hk8, hgo, hs, rfl⟩
  refine Cd.has hs ?_
  clear hs
  have hend : goS f s (n.toNat - k) = s → ∃ y : RLay, WOk w w.heap.size y (goS f (begS f args mem ans) n.toNat) ∧ Value.tuple #[.pointer (some ⟨y'.gR, 0, none⟩), .int .i64 0] = .tuple #[.pointer (some ⟨y.gR, 0, none⟩), .int .i64 0] ∧ wL (fF0 f) (fF1 f) y' s = wL (fF0 f) (fF1 f) y (goS f (begS f args mem ans) n.toNat) := fun he => by
    have : goS f (begS f args mem ans) n.toNat = s := by rw [← hgo, he]
    rw [this]
    exact ⟨y', hro', rfl, rfl⟩
  refine Cd.seq ?_
  refine Cd.seq ?_
  cases h3 : decide ((k : Int) < n) with
  | false =>
    have hke : n.toNat - k = 0 := by
      have : ¬ (k : Int) < n := of_decide_eq_false h3
      omega
    refine Cd.region ?_
    refine Ol.p mvi ?_
    refine Ol.p mvi ?_
    refine Ol.p lsi ?_
    refine Ol.p mvb ?_
    refine Ol.gn h3 ?_
    refine Ol.gn h3 ?_
    refine Ol.p (pkFb h3) ?_
    refine Ol.nil ?_
    refine Cd.cond rfl (fun h => nomatch h) (fun h => ?_)   -- $34
    refine Cd.exit (id := 0) ?_
    refine Cd.seq ?_
    refine Cd.region ?_
    refine Ol.p mvp ?_
    refine Ol.p asp ?_
    refine Ol.p asi ?_
    refine Ol.nil ?_
    obtain ⟨y2, h1, h2, h3⟩ := hend (by rw [hke]; rfl)
    exact Cd.ret ⟨.tuple #[.pointer (some ⟨y'.gR, 0, none⟩), .int .i64 0], ret2 rfl rfl rfl, _, .sub (.cons _ (List.Sublist.refl _)), .inl ⟨hok, hn20, y2, h1, h2, h3⟩⟩
  | true =>
    have hlt : k < n.toNat := by
      have : (k : Int) < n := of_decide_eq_true h3
      omega
    refine Cd.region ?_
    refine Ol.p mvi ?_
    refine Ol.p mvi ?_
    refine Ol.p lsi ?_
    refine Ol.p mvb ?_
    refine Ol.gp h3 mvp ?_
    refine Ol.gx h3 (sp_callm (vs := [.pointer (some ⟨y'.gR, 0, none⟩)]) (Lin := wL (fF0 f) (fF1 f) y' s) (L2 := [blk g5 (.cells f.cells.toArray 37)]) (R := WTo w w.heap.size (fF0 f) (fF1 f) y' (goS f s 1) (.bool (decide (s.e = 0)))) en_P_ref08_Run_Step (List.perm_append_comm (l₁ := [_])) (ref08_Step_any hf hR8 hR' hk8 hbl hro' (by omega))) ?_
    rintro _ _ ⟨_, rfl, rfl, y2, hg, hro2, rfl⟩
    refine Ol.keep Keep.comm ?_
    refine Ol.p (pkTb h3) ?_
    refine Ol.nil ?_
    by_cases he : s.e = 0
    · refine Cd.cond rfl (fun h => ?_) (fun h => by have h : decide (s.e = 0) = false := h; exact absurd he (of_decide_eq_false h))   -- $34
      refine Cd.skip ?_
      refine Cd.seq ?_
      refine Cd.block ?_   -- 1
      refine Cd.skip ?_
      refine Cd.region ?_
      refine Ol.p mvi ?_
      refine Ol.p addi ?_
      refine Ol.p asi ?_
      refine Ol.nil ?_
      have hgo1 : goS f s 1 = stepR f s := if_pos he
      have hk8' : Keeps8 (goS f s 1) := hk8.go hR8 hR'
      rw [hgo1] at hro2 hk8' ⊢
      refine ⟨n.toNat - (k + 1), by omega, k + 1, y2, stepR f s, rfl, by omega, hro2, hR'.step hR8.fine he, hk8', ?_, ⟨rfl, by rw [← hg]; rfl, rfl, trivial⟩, rfl⟩
      rw [← hgo, show n.toNat - k = (n.toNat - (k + 1)) + 1 by omega]
      show _ = if s.e = 0 then _ else _
      rw [if_pos he]
    · refine Cd.cond rfl (fun h => by have h : decide (s.e = 0) = true := h; exact absurd (of_decide_eq_true h) he) (fun h => ?_)   -- $34
      refine Cd.exit (id := 0) ?_
      refine Cd.seq ?_
      refine Cd.region ?_
      refine Ol.p mvp ?_
      refine Ol.p asp ?_
      refine Ol.p asi ?_
      refine Ol.nil ?_
      rw [goS_end he] at hro2 ⊢
      have hfin : goS f (begS f args mem ans) n.toNat = s := by rw [← hgo, goS_end he]
      refine Cd.ret ⟨.tuple #[.pointer (some ⟨y'.gR, 0, none⟩), .int .i64 0], ret2 rfl rfl rfl, _, .sub (.cons _ (List.Sublist.refl _)), .inl ⟨hok, hn20, y2, ?_, by rw [hg], ?_⟩⟩
      · rw [hfin]; exact hro2
      · rw [hfin]
        rfl
end
end Go.Proofs.YtjenaenakopicaaGreat

/- The law 08: whether a result, a run is that of the reference's: same, stands, walked. -/
namespace Go.Proofs.YtjenaenakopicaaGreat
set_option linter.unusedVariables false
set_option linter.unusedSimpArgs false
open Go Go.RowKit
set_option maxRecDepth 100000
section
theorem wrecs_own {w0 w : World} {B B' : Nat} {w1 : World} {M L : List Res} {y : RLay} {s : RSt} (hh : Hp w0 B (M ++ L) w) (hok : WOk w1 B' y s) (hc : callRow y s ∈ L) (hr : ∀ r ∈ y.recs, callRes r ∈ L) (hl : s.calls.length < 2 ^ 36) (ha : ∀ c ∈ s.calls, c.2.length < 2 ^ 43) : RecsIn w w.heap.size y.cA y.recs := by
  have hlr : s.calls.length = y.recs.length := by rw [hok.calls]; simp
  have key : ∀ {A : Option Addr} {n c e s : Nat} {xs : List Value}, row (Value.slice A n c) e s n xs ∈ L → Reads w w.heap.size s A n xs := fun hm => by
    obtain ⟨i, hi⟩ := List.mem_iff_getElem?.1 hm
    exact Reads.row hh hi
  refine ⟨?_, fun r hr' => key (hr r hr'), by omega, fun r hr' => ?_⟩
  · rw [← hlr]
    exact key hc
  · have := ha (r.callee, r.args) (by rw [hok.calls]; exact List.mem_map_of_mem hr')
    exact Nat.lt_trans this (by decide)
set_option maxHeartbeats 2000000 in
theorem law08_same_cm {w0 w1 : World} {B B1 : Nat} {F0 F1 : Value} {y : RLay} {s : RSt} {z : RRes} (hz : z.of s) (hok : WOk w1 B1 y s) (hm : s.mem.length < 2 ^ 43) (hcl : s.calls.length < 2 ^ 36) (hal : ∀ c ∈ s.calls, c.2.length < 2 ^ 43) :
    Cm Tryz.prog 17 #[.agg z.cells.toArray, .pointer (some ⟨y.gR, 0, none⟩)] w0 B (z.res ++ wL F0 F1 y s) (fun v L => v = .bool true ∧ L = z.res ++ wL F0 F1 y s) := by
  have hlr : s.calls.length = y.recs.length := by rw [hok.calls]; simp
  have hzl : z.recs.length = s.calls.length := by rw [← hz.2.2.2.2, List.length_map]
  have hza : ∀ r ∈ z.recs, r.args.length < 2 ^ 43 := fun r hr => hal r.two (by rw [← hz.2.2.2.2]; exact List.mem_map_of_mem hr)
  have htwo : z.recs.map CRec.two = y.recs.map CRec.two := hz.2.2.2.2.trans hok.calls
  obtain ⟨L0, hL0⟩ : ∃ L0, L0 = z.res ++ wL F0 F1 y s := ⟨_, rfl⟩
  have hin : ∀ r ∈ z.res, r ∈ L0 := fun r hr => by rw [hL0]; exact List.mem_append_left _ hr
  have hwin : ∀ r ∈ wL F0 F1 y s, r ∈ L0 := fun r hr => by rw [hL0]; exact List.mem_append_right _ hr
  obtain ⟨jB, hB⟩ : ∃ j : Nat, L0[j]? = some (wB F0 F1 y s) := List.mem_iff_getElem?.1 (hwin _ (List.mem_cons_self ..))
  rw [← hL0]
  have hmem : ∀ (X : Res) (M : List Res) (w' : World), Hp w0 B (M ++ (X :: L0)) w' → Ct Tryz.prog 37 #[.slice z.mA z.mem.length z.mC, .slice y.mA s.mem.length y.mC] w' (Is (.bool true)) := fun X M w' hh => by
    have h1 : Reads w' w'.heap.size 1 z.mA z.mem.length (ints z.mem) := res_memIn hh (fun r hr => List.mem_cons_of_mem _ (hin r hr))
    obtain ⟨i, hi⟩ := List.mem_iff_getElem?.1 (hwin (memRow y s) (List.mem_cons_of_mem _ (List.mem_cons_self ..)))
    have h2 : Reads w' w'.heap.size 1 y.mA s.mem.length (ints s.mem) := Reads.row hh (i := i + 1) hi
    have h := kit_SameInts_ct (c := z.mC) (d := y.mC) h1 h2 (by rw [hz.2.2.1]; omega) (by omega)
    rw [decide_eq_true hz.2.2.1] at h
    exact h
  have hcalls : ∀ (X : Res) (M : List Res) (w' : World), Hp w0 B (M ++ (X :: L0)) w' → Ct Tryz.prog 55 #[.slice z.cA z.recs.length z.cC, .slice y.cA s.calls.length y.cC] w' (Is (.bool true)) := fun X M w' hh => by
    have h1 := recsIn_own hh (fun r hr => List.mem_cons_of_mem _ (hin r hr)) (by omega) hza
    have h2 := wrecs_own hh hok (List.mem_cons_of_mem _ (hwin _ (List.mem_cons_of_mem _ (List.mem_cons_of_mem _ (List.mem_cons_of_mem _ (List.mem_cons_self ..)))))) (fun r hr => List.mem_cons_of_mem _ (hwin _ (List.mem_append_right _ (List.mem_map_of_mem hr)))) hcl hal
    have h := law08_sameCalls_ct (c := z.cC) (d := y.cC) h1 h2
    rw [decide_eq_true htwo] at h
    rw [hlr]
    exact h
  refine Cm.mk Tryz.func17 rfl rfl fun M => ?_
  refine Cd.seq ?_
  refine Cd.region ?_
  refine Ol.x bxg ?_
  rintro _ _ ⟨g2, rfl, rfl⟩
  refine Ol.p asb ?_
  refine Ol.nil ?_
  refine Cd.seq ?_
  have h7 : decide (z.e = s.e) = true := decide_eq_true hz.1
  have h16 : decide (z.v = s.v) = true := decide_eq_true hz.2.1
  refine Cd.draw mixed 44 (exIs (fun opNo => match opNo with | 23 => some (.bool true) | 32 => some (.bool true) | _ => none)) (fun _ => []) (by kernel_rfl) exIs_in (fun u hu => ?_)
  refine Wk.p (fdl fd_run_Result_0) ?_
  refine Wk.p (ld one_api_EndKind (Rd.blk (i := 0) rfl rfl)) ?_
  refine Wk.p mvp ?_
  refine Wk.p nlc ?_
  refine Wk.p (fdl fd_ref08_Run_9) ?_
  refine Wk.p (ld (v := .int .i64 s.e) one_api_EndKind (Rd.blk (i := jB + 1) hB wC_e_at)) ?_
  refine Wk.p eqi ?_
  refine Wk.p mvb ?_
  refine Wk.gp h7 (fdl fd_run_Result_1) ?_
  refine Wk.gp h7 (ld one_int (Rd.blk (i := 0) rfl rfl)) ?_
  refine Wk.gp h7 mvp ?_
  refine Wk.gp h7 nlc ?_
  refine Wk.gp h7 (fdl fd_ref08_Run_10) ?_
  refine Wk.gp h7 (ld (v := .int .i64 s.v) one_int (Rd.blk (i := jB + 1) hB wC_v_at)) ?_
  refine Wk.gp h7 eqi ?_
  refine Wk.p (pkTb h7) ?_
  refine Wk.p mvb ?_
  refine Wk.gp h16 (fdl fd_run_Result_2) ?_
  refine Wk.gp h16 (ld one_L_api_Call (Rd.blk (i := 0) rfl rfl)) ?_
  refine Wk.gp h16 mvp ?_
  refine Wk.gp h16 nlc ?_
  refine Wk.gp h16 (fdl fd_ref08_Run_5) ?_
  refine Wk.gp h16 (ld (v := .slice y.cA s.calls.length y.cC) one_L_api_Call (Rd.blk (i := jB + 1) hB wC_c_at)) ?_
  refine Wk.gdk hu h16 (sp_call (vs := [.slice z.cA z.recs.length z.cC, .slice y.cA s.calls.length y.cC]) en_law08_sameCalls (fun M w' hh => hcalls _ M w' hh)) ?_
  refine Wk.p (pkTb h16) ?_
  refine Wk.p mvb ?_
  refine Wk.gp rfl (fdl fd_run_Result_3) ?_
  refine Wk.gp rfl (ld one_L_int (Rd.blk (i := 0) rfl rfl)) ?_
  refine Wk.gp rfl mvp ?_
  refine Wk.gp rfl nlc ?_
  refine Wk.gp rfl (fdl fd_ref08_Run_3) ?_
  refine Wk.gp rfl (ld (v := .slice y.mA s.mem.length y.mC) one_L_int (Rd.blk (i := jB + 1) hB wC_m_at)) ?_
  refine Wk.gdk hu rfl (sp_call (vs := [.slice z.mA z.mem.length z.mC, .slice y.mA s.mem.length y.mC]) en_kit_SameInts (fun M w' hh => hmem _ M w' hh)) ?_
  refine Wk.p (pkTb rfl) ?_
  refine Wk.p mvb ?_
  refine Wk.gp rfl (fdl fd_run_Result_4) ?_
  refine Wk.gp rfl (ld one_int (Rd.blk (i := 0) rfl rfl)) ?_
  refine Wk.gp rfl mvp ?_
  refine Wk.gp rfl nlc ?_
  refine Wk.gp rfl (fdl fd_ref08_Run_8) ?_
  refine Wk.gp rfl (ld (v := .int .i64 (s.steps : Int)) one_int (Rd.blk (i := jB + 1) hB wC_s_at)) ?_
  refine Wk.gp rfl eqi ?_
  refine Wk.p (pkTb rfl) ?_
  refine Wk.p asb ?_
  refine Wk.nil ?_
  rw [needs_exIs hu rfl]
  refine Ol.nil ?_
  exact Cd.ret ⟨.bool (decide ((z.steps : Int) = (s.steps : Int))), ret1 rfl rfl, L0, .sub (.cons _ (List.Sublist.refl _)), congrArg Value.bool (decide_eq_true (by rw [hz.2.2.2.1])), rfl⟩
end
section
set_option maxHeartbeats 2000000 in
theorem law08_stands_cm {w0 : World} {B : Nat} {F0 F1 : Value} {y y2 : RLay} {s : RSt} (hrk : RunOk w0 B y s) (hk8 : Keeps8 s) :
    Cm Tryz.prog 26 #[.pointer (some ⟨y.gR, 0, none⟩), .pointer (some ⟨y2.gR, 0, none⟩)] w0 B (runL y s ++ wL F0 F1 y2 s) (fun v L => v = .bool true ∧ L = runL y s ++ wL F0 F1 y2 s) := by
  obtain ⟨L0, hL0⟩ : ∃ L0, L0 = runL y s ++ wL F0 F1 y2 s := ⟨_, rfl⟩
  obtain ⟨jB, hB⟩ : ∃ j : Nat, L0[j]? = some (wB F0 F1 y2 s) := List.mem_iff_getElem?.1 (by rw [hL0]; exact List.mem_append_right _ (List.mem_cons_self ..))
  have hperm : L0.Perm (runL y s ++ wL F0 F1 y2 s) := by rw [hL0]
  rw [← hL0]
  refine Cm.mk Tryz.func26 rfl rfl fun M => ?_
  refine Cd.seq ?_
  refine Cd.region ?_
  refine Ol.p asb ?_
  refine Ol.nil ?_
  refine Cd.seq ?_
  refine Cd.region ?_
  refine Ol.p mvp ?_
  refine Ol.x (sp_callm (vs := [.pointer (some ⟨y.gR, 0, none⟩)]) (Lin := runL y s) (L2 := wL F0 F1 y2 s) en_P_run_Run_At hperm run_At_cm) ?_
  rintro _ _ ⟨_, rfl, rfl, rfl⟩
  refine Ol.p mvt ?_
  refine Ol.p extv ?_
  refine Ol.p extv ?_
  refine Ol.p asi ?_
  refine Ol.p asi ?_
  refine Ol.nil ?_
  show Cd _ _ _ _ (runL y s ++ wL F0 F1 y2 s)
  rw [← hL0]
  refine Cd.seq ?_
  refine Cd.seq ?_
  have h6 : (!decide ((s.b : Int) = (s.b : Int))) = false := by simp
  refine Cd.region ?_
  refine Ol.p mvi ?_
  refine Ol.p mvp ?_
  refine Ol.p nlc ?_
  refine Ol.p (fdl fd_ref08_Run_6) ?_
  refine Ol.p (ld (v := .int .i64 (s.b : Int)) one_int (Rd.blk (i := jB) hB wC_b_at)) ?_
  refine Ol.p nei ?_
  refine Ol.p mvb ?_
  refine Ol.gp h6 mvi ?_
  refine Ol.gp h6 mvp ?_
  refine Ol.gp h6 nlc ?_
  refine Ol.gp h6 (fdl fd_ref08_Run_7) ?_
  refine Ol.gp h6 (ld (v := .int .i64 (s.i : Int)) one_int (Rd.blk (i := jB) hB wC_i_at)) ?_
  refine Ol.gp h6 nei ?_
  refine Ol.p (pkFb h6) ?_
  refine Ol.nil ?_
  refine Cd.cond rfl (fun h => ?_) (fun h => ?_)   -- $28
  · exact absurd h (by simp)
  refine Cd.skip ?_
  refine Cd.seq ?_
  refine Cd.seq ?_
  refine Cd.region ?_
  refine Ol.p asi ?_
  refine Ol.nil ?_
  refine Cd.block ?_   -- 0
  refine Cd.loop (fun m σ L => ∃ k : Nat, m = 203 - k ∧ k ≤ 203 ∧ Has σ [(0, .pointer (some ⟨y.gR, 0, none⟩)), (1, .pointer (some ⟨y2.gR, 0, none⟩)), (7, .int .i64 ((k : Int) - 1))] ∧ L0 = L) (n := 203) ⟨0, rfl, Nat.zero_le _, ⟨rfl, rfl, rfl, trivial⟩, rfl⟩ ?_
  rintro _ σ L ⟨k, rfl, hk, hs, rfl⟩
  refine Cd.has hs ?_
  clear hs
  obtain ⟨v, hv⟩ : ∃ v, v = (k : Int) - 1 := ⟨_, rfl⟩
  rw [← hv]
  refine Cd.seq ?_
  refine Cd.seq ?_
  refine Cd.region ?_
  refine Ol.p mvi ?_
  refine Ol.p lsi ?_
  refine Ol.nil ?_
  refine Cd.cond rfl (fun h => ?_) (fun h => ?_)   -- $30
  · have hlt : v < 202 := of_decide_eq_true h
    refine Cd.skip ?_
    refine Cd.mid (fun σ' L' => Has σ' [(0, .pointer (some ⟨y.gR, 0, none⟩)), (1, .pointer (some ⟨y2.gR, 0, none⟩)), (7, .int .i64 v)] ∧ L0 = L') ?_ ?_
    · skip
      refine Cd.block ?_   -- 1
      refine Cd.seq ?_
      refine Cd.region ?_
      refine Ol.p mvp ?_
      refine Ol.p mvi ?_
      refine Ol.x (sp_callm (vs := [.pointer (some ⟨y.gR, 0, none⟩), .int .i64 v]) (Lin := runL y s) (L2 := wL F0 F1 y2 s) en_P_run_Run_Var hperm (run_Var_cm hrk)) ?_
      rintro _ _ ⟨_, rfl, rfl, rfl⟩
      refine Ol.p mvt ?_
      refine Ol.p extv ?_
      refine Ol.p extv ?_
      refine Ol.p asi ?_
      refine Ol.p asb ?_
      refine Ol.nil ?_
      show Cd _ _ _ _ (runL y s ++ wL F0 F1 y2 s)
      rw [← hL0]
      refine Cd.seq ?_
      have hnone : v < 1 ∨ 200 < v → s.vars v = none := fun h => by
        cases hc : s.vars v with
        | none => rfl
        | some n => have := hk8.vars v (by rw [hc]; exact fun h => by cases h); omega
      have hg0 : s.vars v = none → s.get v = 0 ∧ (s.vars v).isSome = false := fun h => by unfold RSt.get; rw [h]; exact ⟨rfl, rfl⟩
      refine Cd.mid (fun σ' L' => Has σ' [(0, .pointer (some ⟨y.gR, 0, none⟩)), (1, .pointer (some ⟨y2.gR, 0, none⟩)), (7, .int .i64 v), (8, .int .i64 (s.get v)), (9, .bool (s.vars v).isSome), (44, .bool (decide (v < 1) || decide (200 < v)))] ∧ L0 = L') ?_ ?_
      · cases h2 : decide (v < 1) with
        | true =>
          refine Cd.region ?_
          refine Ol.p mvi ?_
          refine Ol.p lsi ?_
          refine Ol.p mvb ?_
          refine Ol.gn h2 ?_
          refine Ol.gn h2 ?_
          refine Ol.p (pkTb h2) ?_
          refine Ol.nil ?_
          exact ⟨⟨rfl, rfl, rfl, rfl, rfl, rfl, trivial⟩, rfl⟩
        | false =>
          refine Cd.region ?_
          refine Ol.p mvi ?_
          refine Ol.p lsi ?_
          refine Ol.p mvb ?_
          refine Ol.gp h2 mvi ?_
          refine Ol.gp h2 gti ?_
          refine Ol.p (pkFb h2) ?_
          refine Ol.nil ?_
          exact ⟨⟨rfl, rfl, rfl, rfl, rfl, rfl, trivial⟩, rfl⟩
      rintro σ' _ ⟨hs', rfl⟩
      refine Cd.has hs' ?_
      clear hs'
      refine Cd.cond rfl (fun h => ?_) (fun h => ?_)   -- $44
      · have hvo : v < 1 ∨ 200 < v := by
          have h : (decide (v < 1) || decide (200 < v)) = true := h
          simpa using h
        obtain ⟨hg, h1⟩ := hg0 (hnone hvo)
        refine Cd.seq ?_
        refine Cd.seq ?_
        refine Cd.region ?_
        refine Ol.p mvb ?_
        refine Ol.p mvb ?_
        refine Ol.gp h1 mvi ?_
        refine Ol.gp h1 nei ?_
        refine Ol.p (pkFb h1) ?_
        refine Ol.nil ?_
        refine Cd.cond rfl (fun h => ?_) (fun h => ?_)   -- $49
        · have h : (!decide (s.get v = 0)) = true := h
          rw [hg] at h
          exact absurd h (by simp)
        refine Cd.skip ?_
        refine Cd.exit (id := 1) ?_
        exact ⟨⟨rfl, rfl, rfl, trivial⟩, rfl⟩
      have hvi : 1 ≤ v ∧ v ≤ 200 := by
        have h : (decide (v < 1) || decide (200 < v)) = false := h
        simp at h
        omega
      obtain ⟨kv, hkv⟩ : ∃ kv : Nat, v = (kv : Int) := ⟨v.toNat, by omega⟩
      have hhas := wC_has (F0 := F0) (F1 := F1) (m := .slice y2.mA s.mem.length y2.mC) (a := .slice y2.aA s.ans.length y2.aC) (c := .slice y2.cA s.calls.length y2.cC) (s := s) (k := kv) (by omega)
      have hval := wC_val (F0 := F0) (F1 := F1) (m := .slice y2.mA s.mem.length y2.mC) (a := .slice y2.aA s.ans.length y2.aC) (c := .slice y2.cA s.calls.length y2.cC) (s := s) (k := kv) (by omega)
      rw [← hkv] at hhas hval
      refine Cd.skip ?_
      refine Cd.seq ?_
      have h8 : (!decide ((s.vars v).isSome = (s.vars v).isSome)) = false := by simp
      refine Cd.region ?_
      refine Ol.p mvb ?_
      refine Ol.p mvp ?_
      refine Ol.p mvi ?_
      refine Ol.p nlc ?_
      refine Ol.p (fdl fd_ref08_Run_2) ?_
      refine Ol.p (ixl (off := 203) (ix := kv) ar_A201_bool (hy := congrArg (Value.int .i64) hkv)) ?_
      refine Ol.p (ld (v := .bool (s.vars v).isSome) one_bool (Rd.blk (i := jB) hB hhas)) ?_
      refine Ol.p (neb bo_bool) ?_
      refine Ol.p mvb ?_
      refine Ol.gp h8 mvi ?_
      refine Ol.gp h8 mvp ?_
      refine Ol.gp h8 mvi ?_
      refine Ol.gp h8 nlc ?_
      refine Ol.gp h8 (fdl fd_ref08_Run_1) ?_
      refine Ol.gp h8 (ixl (off := 2) (ix := kv) ar_A201_int (hy := congrArg (Value.int .i64) hkv)) ?_
      refine Ol.gp h8 (ld (v := .int .i64 (s.get v)) one_int (Rd.blk (i := jB) hB hval)) ?_
      refine Ol.gp h8 nei ?_
      refine Ol.p (pkFb h8) ?_
      refine Ol.nil ?_
      refine Cd.cond rfl (fun h => ?_) (fun h => ?_)   -- $67
      · exact absurd h (by simp)
      refine Cd.skip ?_
      exact ⟨⟨rfl, rfl, rfl, trivial⟩, rfl⟩
    rintro σ' _ ⟨hs', rfl⟩
    refine Cd.has hs' ?_
    refine Cd.region ?_
    refine Ol.p mvi ?_
    refine Ol.p addi ?_
    refine Ol.p asi ?_
    refine Ol.nil ?_
    exact ⟨203 - (k + 1), by omega, k + 1, rfl, by omega, ⟨rfl, rfl, congrArg (Value.int .i64) (by omega), trivial⟩, rfl⟩
  refine Cd.exit (id := 0) ?_
  refine Cd.seq ?_
  refine Cd.region ?_
  refine Ol.p asb ?_
  refine Ol.nil ?_
  exact Cd.ret ⟨.bool true, ret1 rfl rfl, _, .all, rfl, rfl⟩
end
end Go.Proofs.YtjenaenakopicaaGreat

/- The kit: functions are compared, walked. -/
namespace Go.Proofs.YtjenaenakopicaaGreat
set_option linter.unusedVariables false
open Go Go.RowKit
set_option maxRecDepth 100000

noncomputable instance : DecidableEq RIns := fun _ _ => Classical.propDecidable _
noncomputable instance : DecidableEq RBlk := fun _ _ => Classical.propDecidable _
noncomputable instance : DecidableEq RFun := fun _ _ => Classical.propDecidable _
section
set_option maxHeartbeats 4000000 in
theorem kit_SameIns_ct {w : World} {a b : RIns} (ha : Reads w w.heap.size 1 a.aA a.args.length (ints a.args)) (hb : Reads w w.heap.size 1 b.aA b.args.length (ints b.args)) (hal : a.args.length < 2 ^ 60) (hbl : b.args.length < 2 ^ 60) : Ct Tryz.prog 141 #[a.val, b.val] w (Is (.bool (decide (a.bare = b.bare)))) := by
  refine Ct.mk Tryz.func141 rfl rfl ?_
  refine Cd.seq ?_
  refine Cd.region ?_
  refine Ol.x bxg ?_
  rintro _ _ ⟨g2, rfl, rfl⟩
  refine Ol.x bxg ?_
  rintro _ _ ⟨g3, rfl, rfl⟩
  refine Ol.p asb ?_
  refine Ol.nil ?_
  refine Cd.seq ?_
  cases h0 : decide (a.op = b.op) with
  | true =>
    cases h1 : decide (a.dst = b.dst) with
    | true =>
      cases h2 : decide (a.a = b.a) with
      | true =>
        cases h3 : decide (a.b = b.b) with
        | true =>
          cases h4 : decide (a.imm = b.imm) with
          | true =>
            cases h5 : decide (a.callee = b.callee) with
            | true =>
              cases h6 : decide (a.args = b.args) with
              | true =>
                refine Cd.region ?_
                refine Ol.p (fdl fd_api_Ins_0) ?_
                refine Ol.p (ld (v := .int .i64 a.op) one_api_Op (Rd.blk (i := 1) rfl rfl)) ?_
                refine Ol.p (fdl fd_api_Ins_0) ?_
                refine Ol.p (ld (v := .int .i64 b.op) one_api_Op (Rd.blk (i := 0) rfl rfl)) ?_
                refine Ol.p eqi ?_
                refine Ol.p mvb ?_
                refine Ol.gp h0 (fdl fd_api_Ins_1) ?_
                refine Ol.gp h0 (ld (v := .int .i64 a.dst) one_int (Rd.blk (i := 1) rfl rfl)) ?_
                refine Ol.gp h0 (fdl fd_api_Ins_1) ?_
                refine Ol.gp h0 (ld (v := .int .i64 b.dst) one_int (Rd.blk (i := 0) rfl rfl)) ?_
                refine Ol.gp h0 eqi ?_
                refine Ol.p (pkTb h0) ?_
                refine Ol.p mvb ?_
                refine Ol.gp h1 (fdl fd_api_Ins_2) ?_
                refine Ol.gp h1 (ld (v := .int .i64 a.a) one_int (Rd.blk (i := 1) rfl rfl)) ?_
                refine Ol.gp h1 (fdl fd_api_Ins_2) ?_
                refine Ol.gp h1 (ld (v := .int .i64 b.a) one_int (Rd.blk (i := 0) rfl rfl)) ?_
                refine Ol.gp h1 eqi ?_
                refine Ol.p (pkTb h1) ?_
                refine Ol.p mvb ?_
                refine Ol.gp h2 (fdl fd_api_Ins_3) ?_
                refine Ol.gp h2 (ld (v := .int .i64 a.b) one_int (Rd.blk (i := 1) rfl rfl)) ?_
                refine Ol.gp h2 (fdl fd_api_Ins_3) ?_
                refine Ol.gp h2 (ld (v := .int .i64 b.b) one_int (Rd.blk (i := 0) rfl rfl)) ?_
                refine Ol.gp h2 eqi ?_
                refine Ol.p (pkTb h2) ?_
                refine Ol.p mvb ?_
                refine Ol.gp h3 (fdl fd_api_Ins_4) ?_
                refine Ol.gp h3 (ld (v := .int .i64 a.imm) one_int (Rd.blk (i := 1) rfl rfl)) ?_
                refine Ol.gp h3 (fdl fd_api_Ins_4) ?_
                refine Ol.gp h3 (ld (v := .int .i64 b.imm) one_int (Rd.blk (i := 0) rfl rfl)) ?_
                refine Ol.gp h3 eqi ?_
                refine Ol.p (pkTb h3) ?_
                refine Ol.p mvb ?_
                refine Ol.gp h4 (fdl fd_api_Ins_5) ?_
                refine Ol.gp h4 (ld (v := .int .i64 a.callee) one_int (Rd.blk (i := 1) rfl rfl)) ?_
                refine Ol.gp h4 (fdl fd_api_Ins_5) ?_
                refine Ol.gp h4 (ld (v := .int .i64 b.callee) one_int (Rd.blk (i := 0) rfl rfl)) ?_
                refine Ol.gp h4 eqi ?_
                refine Ol.p (pkTb h4) ?_
                refine Ol.p mvb ?_
                refine Ol.gp h5 (fdl fd_api_Ins_6) ?_
                refine Ol.gp h5 (ld (v := .slice a.aA a.args.length a.aC) one_L_int (Rd.blk (i := 1) rfl rfl)) ?_
                refine Ol.gp h5 (fdl fd_api_Ins_6) ?_
                refine Ol.gp h5 (ld (v := .slice b.aA b.args.length b.aC) one_L_int (Rd.blk (i := 0) rfl rfl)) ?_
                refine Ol.gs h5 (cl en_kit_SameInts (fun M w' hh => kit_SameInts_ct (ha.now hh) (hb.now hh) (by omega) (by omega))) ?_
                refine Ol.p (pkTb h5) ?_
                refine Ol.p mvb ?_
                refine Ol.gp h6 (fdl fd_api_Ins_7) ?_
                refine Ol.gp h6 (ld (v := .int .i64 a.many) one_int (Rd.blk (i := 1) rfl rfl)) ?_
                refine Ol.gp h6 (fdl fd_api_Ins_7) ?_
                refine Ol.gp h6 (ld (v := .int .i64 b.many) one_int (Rd.blk (i := 0) rfl rfl)) ?_
                refine Ol.gp h6 eqi ?_
                refine Ol.p (pkTb h6) ?_
                refine Ol.p asb ?_
                refine Ol.nil ?_
                refine Cd.ret ⟨.bool _, ret1 rfl rfl, [], Keep.nil, congrArg Value.bool ?_, rfl⟩
                have q0 := of_decide_eq_true h0
                have q1 := of_decide_eq_true h1
                have q2 := of_decide_eq_true h2
                have q3 := of_decide_eq_true h3
                have q4 := of_decide_eq_true h4
                have q5 := of_decide_eq_true h5
                have q6 := of_decide_eq_true h6
                rw [decide_eq_decide]
                unfold RIns.bare
                simp [q0, q1, q2, q3, q4, q5, q6]
              | false =>
                refine Cd.region ?_
                refine Ol.p (fdl fd_api_Ins_0) ?_
                refine Ol.p (ld (v := .int .i64 a.op) one_api_Op (Rd.blk (i := 1) rfl rfl)) ?_
                refine Ol.p (fdl fd_api_Ins_0) ?_
                refine Ol.p (ld (v := .int .i64 b.op) one_api_Op (Rd.blk (i := 0) rfl rfl)) ?_
                refine Ol.p eqi ?_
                refine Ol.p mvb ?_
                refine Ol.gp h0 (fdl fd_api_Ins_1) ?_
                refine Ol.gp h0 (ld (v := .int .i64 a.dst) one_int (Rd.blk (i := 1) rfl rfl)) ?_
                refine Ol.gp h0 (fdl fd_api_Ins_1) ?_
                refine Ol.gp h0 (ld (v := .int .i64 b.dst) one_int (Rd.blk (i := 0) rfl rfl)) ?_
                refine Ol.gp h0 eqi ?_
                refine Ol.p (pkTb h0) ?_
                refine Ol.p mvb ?_
                refine Ol.gp h1 (fdl fd_api_Ins_2) ?_
                refine Ol.gp h1 (ld (v := .int .i64 a.a) one_int (Rd.blk (i := 1) rfl rfl)) ?_
                refine Ol.gp h1 (fdl fd_api_Ins_2) ?_
                refine Ol.gp h1 (ld (v := .int .i64 b.a) one_int (Rd.blk (i := 0) rfl rfl)) ?_
                refine Ol.gp h1 eqi ?_
                refine Ol.p (pkTb h1) ?_
                refine Ol.p mvb ?_
                refine Ol.gp h2 (fdl fd_api_Ins_3) ?_
                refine Ol.gp h2 (ld (v := .int .i64 a.b) one_int (Rd.blk (i := 1) rfl rfl)) ?_
                refine Ol.gp h2 (fdl fd_api_Ins_3) ?_
                refine Ol.gp h2 (ld (v := .int .i64 b.b) one_int (Rd.blk (i := 0) rfl rfl)) ?_
                refine Ol.gp h2 eqi ?_
                refine Ol.p (pkTb h2) ?_
                refine Ol.p mvb ?_
                refine Ol.gp h3 (fdl fd_api_Ins_4) ?_
                refine Ol.gp h3 (ld (v := .int .i64 a.imm) one_int (Rd.blk (i := 1) rfl rfl)) ?_
                refine Ol.gp h3 (fdl fd_api_Ins_4) ?_
                refine Ol.gp h3 (ld (v := .int .i64 b.imm) one_int (Rd.blk (i := 0) rfl rfl)) ?_
                refine Ol.gp h3 eqi ?_
                refine Ol.p (pkTb h3) ?_
                refine Ol.p mvb ?_
                refine Ol.gp h4 (fdl fd_api_Ins_5) ?_
                refine Ol.gp h4 (ld (v := .int .i64 a.callee) one_int (Rd.blk (i := 1) rfl rfl)) ?_
                refine Ol.gp h4 (fdl fd_api_Ins_5) ?_
                refine Ol.gp h4 (ld (v := .int .i64 b.callee) one_int (Rd.blk (i := 0) rfl rfl)) ?_
                refine Ol.gp h4 eqi ?_
                refine Ol.p (pkTb h4) ?_
                refine Ol.p mvb ?_
                refine Ol.gp h5 (fdl fd_api_Ins_6) ?_
                refine Ol.gp h5 (ld (v := .slice a.aA a.args.length a.aC) one_L_int (Rd.blk (i := 1) rfl rfl)) ?_
                refine Ol.gp h5 (fdl fd_api_Ins_6) ?_
                refine Ol.gp h5 (ld (v := .slice b.aA b.args.length b.aC) one_L_int (Rd.blk (i := 0) rfl rfl)) ?_
                refine Ol.gs h5 (cl en_kit_SameInts (fun M w' hh => kit_SameInts_ct (ha.now hh) (hb.now hh) (by omega) (by omega))) ?_
                refine Ol.p (pkTb h5) ?_
                refine Ol.p mvb ?_
                refine Ol.gn h6 ?_
                refine Ol.gn h6 ?_
                refine Ol.gn h6 ?_
                refine Ol.gn h6 ?_
                refine Ol.gn h6 ?_
                refine Ol.p (pkFb h6) ?_
                refine Ol.p asb ?_
                refine Ol.nil ?_
                refine Cd.ret ⟨.bool false, ret1 rfl rfl, [], Keep.nil, congrArg Value.bool ?_, rfl⟩
                exact (decide_eq_false fun e => of_decide_eq_false h6 (congrArg RIns.args e : a.bare.args = b.bare.args)).symm
            | false =>
              refine Cd.region ?_
              refine Ol.p (fdl fd_api_Ins_0) ?_
              refine Ol.p (ld (v := .int .i64 a.op) one_api_Op (Rd.blk (i := 1) rfl rfl)) ?_
              refine Ol.p (fdl fd_api_Ins_0) ?_
              refine Ol.p (ld (v := .int .i64 b.op) one_api_Op (Rd.blk (i := 0) rfl rfl)) ?_
              refine Ol.p eqi ?_
              refine Ol.p mvb ?_
              refine Ol.gp h0 (fdl fd_api_Ins_1) ?_
              refine Ol.gp h0 (ld (v := .int .i64 a.dst) one_int (Rd.blk (i := 1) rfl rfl)) ?_
              refine Ol.gp h0 (fdl fd_api_Ins_1) ?_
              refine Ol.gp h0 (ld (v := .int .i64 b.dst) one_int (Rd.blk (i := 0) rfl rfl)) ?_
              refine Ol.gp h0 eqi ?_
              refine Ol.p (pkTb h0) ?_
              refine Ol.p mvb ?_
              refine Ol.gp h1 (fdl fd_api_Ins_2) ?_
              refine Ol.gp h1 (ld (v := .int .i64 a.a) one_int (Rd.blk (i := 1) rfl rfl)) ?_
              refine Ol.gp h1 (fdl fd_api_Ins_2) ?_
              refine Ol.gp h1 (ld (v := .int .i64 b.a) one_int (Rd.blk (i := 0) rfl rfl)) ?_
              refine Ol.gp h1 eqi ?_
              refine Ol.p (pkTb h1) ?_
              refine Ol.p mvb ?_
              refine Ol.gp h2 (fdl fd_api_Ins_3) ?_
              refine Ol.gp h2 (ld (v := .int .i64 a.b) one_int (Rd.blk (i := 1) rfl rfl)) ?_
              refine Ol.gp h2 (fdl fd_api_Ins_3) ?_
              refine Ol.gp h2 (ld (v := .int .i64 b.b) one_int (Rd.blk (i := 0) rfl rfl)) ?_
              refine Ol.gp h2 eqi ?_
              refine Ol.p (pkTb h2) ?_
              refine Ol.p mvb ?_
              refine Ol.gp h3 (fdl fd_api_Ins_4) ?_
              refine Ol.gp h3 (ld (v := .int .i64 a.imm) one_int (Rd.blk (i := 1) rfl rfl)) ?_
              refine Ol.gp h3 (fdl fd_api_Ins_4) ?_
              refine Ol.gp h3 (ld (v := .int .i64 b.imm) one_int (Rd.blk (i := 0) rfl rfl)) ?_
              refine Ol.gp h3 eqi ?_
              refine Ol.p (pkTb h3) ?_
              refine Ol.p mvb ?_
              refine Ol.gp h4 (fdl fd_api_Ins_5) ?_
              refine Ol.gp h4 (ld (v := .int .i64 a.callee) one_int (Rd.blk (i := 1) rfl rfl)) ?_
              refine Ol.gp h4 (fdl fd_api_Ins_5) ?_
              refine Ol.gp h4 (ld (v := .int .i64 b.callee) one_int (Rd.blk (i := 0) rfl rfl)) ?_
              refine Ol.gp h4 eqi ?_
              refine Ol.p (pkTb h4) ?_
              refine Ol.p mvb ?_
              refine Ol.gn h5 ?_
              refine Ol.gn h5 ?_
              refine Ol.gn h5 ?_
              refine Ol.gn h5 ?_
              refine Ol.gn h5 ?_
              refine Ol.p (pkFb h5) ?_
              refine Ol.p mvb ?_
              refine Ol.gn rfl ?_
              refine Ol.gn rfl ?_
              refine Ol.gn rfl ?_
              refine Ol.gn rfl ?_
              refine Ol.gn rfl ?_
              refine Ol.p (pkFb rfl) ?_
              refine Ol.p asb ?_
              refine Ol.nil ?_
              refine Cd.ret ⟨.bool false, ret1 rfl rfl, [], Keep.nil, congrArg Value.bool ?_, rfl⟩
              exact (decide_eq_false fun e => of_decide_eq_false h5 (congrArg RIns.callee e : a.bare.callee = b.bare.callee)).symm
          | false =>
            refine Cd.region ?_
            refine Ol.p (fdl fd_api_Ins_0) ?_
            refine Ol.p (ld (v := .int .i64 a.op) one_api_Op (Rd.blk (i := 1) rfl rfl)) ?_
            refine Ol.p (fdl fd_api_Ins_0) ?_
            refine Ol.p (ld (v := .int .i64 b.op) one_api_Op (Rd.blk (i := 0) rfl rfl)) ?_
            refine Ol.p eqi ?_
            refine Ol.p mvb ?_
            refine Ol.gp h0 (fdl fd_api_Ins_1) ?_
            refine Ol.gp h0 (ld (v := .int .i64 a.dst) one_int (Rd.blk (i := 1) rfl rfl)) ?_
            refine Ol.gp h0 (fdl fd_api_Ins_1) ?_
            refine Ol.gp h0 (ld (v := .int .i64 b.dst) one_int (Rd.blk (i := 0) rfl rfl)) ?_
            refine Ol.gp h0 eqi ?_
            refine Ol.p (pkTb h0) ?_
            refine Ol.p mvb ?_
            refine Ol.gp h1 (fdl fd_api_Ins_2) ?_
            refine Ol.gp h1 (ld (v := .int .i64 a.a) one_int (Rd.blk (i := 1) rfl rfl)) ?_
            refine Ol.gp h1 (fdl fd_api_Ins_2) ?_
            refine Ol.gp h1 (ld (v := .int .i64 b.a) one_int (Rd.blk (i := 0) rfl rfl)) ?_
            refine Ol.gp h1 eqi ?_
            refine Ol.p (pkTb h1) ?_
            refine Ol.p mvb ?_
            refine Ol.gp h2 (fdl fd_api_Ins_3) ?_
            refine Ol.gp h2 (ld (v := .int .i64 a.b) one_int (Rd.blk (i := 1) rfl rfl)) ?_
            refine Ol.gp h2 (fdl fd_api_Ins_3) ?_
            refine Ol.gp h2 (ld (v := .int .i64 b.b) one_int (Rd.blk (i := 0) rfl rfl)) ?_
            refine Ol.gp h2 eqi ?_
            refine Ol.p (pkTb h2) ?_
            refine Ol.p mvb ?_
            refine Ol.gp h3 (fdl fd_api_Ins_4) ?_
            refine Ol.gp h3 (ld (v := .int .i64 a.imm) one_int (Rd.blk (i := 1) rfl rfl)) ?_
            refine Ol.gp h3 (fdl fd_api_Ins_4) ?_
            refine Ol.gp h3 (ld (v := .int .i64 b.imm) one_int (Rd.blk (i := 0) rfl rfl)) ?_
            refine Ol.gp h3 eqi ?_
            refine Ol.p (pkTb h3) ?_
            refine Ol.p mvb ?_
            refine Ol.gn h4 ?_
            refine Ol.gn h4 ?_
            refine Ol.gn h4 ?_
            refine Ol.gn h4 ?_
            refine Ol.gn h4 ?_
            refine Ol.p (pkFb h4) ?_
            refine Ol.p mvb ?_
            refine Ol.gn rfl ?_
            refine Ol.gn rfl ?_
            refine Ol.gn rfl ?_
            refine Ol.gn rfl ?_
            refine Ol.gn rfl ?_
            refine Ol.p (pkFb rfl) ?_
            refine Ol.p mvb ?_
            refine Ol.gn rfl ?_
            refine Ol.gn rfl ?_
            refine Ol.gn rfl ?_
            refine Ol.gn rfl ?_
            refine Ol.gn rfl ?_
            refine Ol.p (pkFb rfl) ?_
            refine Ol.p asb ?_
            refine Ol.nil ?_
            refine Cd.ret ⟨.bool false, ret1 rfl rfl, [], Keep.nil, congrArg Value.bool ?_, rfl⟩
            exact (decide_eq_false fun e => of_decide_eq_false h4 (congrArg RIns.imm e : a.bare.imm = b.bare.imm)).symm
        | false =>
          refine Cd.region ?_
          refine Ol.p (fdl fd_api_Ins_0) ?_
          refine Ol.p (ld (v := .int .i64 a.op) one_api_Op (Rd.blk (i := 1) rfl rfl)) ?_
          refine Ol.p (fdl fd_api_Ins_0) ?_
          refine Ol.p (ld (v := .int .i64 b.op) one_api_Op (Rd.blk (i := 0) rfl rfl)) ?_
          refine Ol.p eqi ?_
          refine Ol.p mvb ?_
          refine Ol.gp h0 (fdl fd_api_Ins_1) ?_
          refine Ol.gp h0 (ld (v := .int .i64 a.dst) one_int (Rd.blk (i := 1) rfl rfl)) ?_
          refine Ol.gp h0 (fdl fd_api_Ins_1) ?_
          refine Ol.gp h0 (ld (v := .int .i64 b.dst) one_int (Rd.blk (i := 0) rfl rfl)) ?_
          refine Ol.gp h0 eqi ?_
          refine Ol.p (pkTb h0) ?_
          refine Ol.p mvb ?_
          refine Ol.gp h1 (fdl fd_api_Ins_2) ?_
          refine Ol.gp h1 (ld (v := .int .i64 a.a) one_int (Rd.blk (i := 1) rfl rfl)) ?_
          refine Ol.gp h1 (fdl fd_api_Ins_2) ?_
          refine Ol.gp h1 (ld (v := .int .i64 b.a) one_int (Rd.blk (i := 0) rfl rfl)) ?_
          refine Ol.gp h1 eqi ?_
          refine Ol.p (pkTb h1) ?_
          refine Ol.p mvb ?_
          refine Ol.gp h2 (fdl fd_api_Ins_3) ?_
          refine Ol.gp h2 (ld (v := .int .i64 a.b) one_int (Rd.blk (i := 1) rfl rfl)) ?_
          refine Ol.gp h2 (fdl fd_api_Ins_3) ?_
          refine Ol.gp h2 (ld (v := .int .i64 b.b) one_int (Rd.blk (i := 0) rfl rfl)) ?_
          refine Ol.gp h2 eqi ?_
          refine Ol.p (pkTb h2) ?_
          refine Ol.p mvb ?_
          refine Ol.gn h3 ?_
          refine Ol.gn h3 ?_
          refine Ol.gn h3 ?_
          refine Ol.gn h3 ?_
          refine Ol.gn h3 ?_
          refine Ol.p (pkFb h3) ?_
          refine Ol.p mvb ?_
          refine Ol.gn rfl ?_
          refine Ol.gn rfl ?_
          refine Ol.gn rfl ?_
          refine Ol.gn rfl ?_
          refine Ol.gn rfl ?_
          refine Ol.p (pkFb rfl) ?_
          refine Ol.p mvb ?_
          refine Ol.gn rfl ?_
          refine Ol.gn rfl ?_
          refine Ol.gn rfl ?_
          refine Ol.gn rfl ?_
          refine Ol.gn rfl ?_
          refine Ol.p (pkFb rfl) ?_
          refine Ol.p mvb ?_
          refine Ol.gn rfl ?_
          refine Ol.gn rfl ?_
          refine Ol.gn rfl ?_
          refine Ol.gn rfl ?_
          refine Ol.gn rfl ?_
          refine Ol.p (pkFb rfl) ?_
          refine Ol.p asb ?_
          refine Ol.nil ?_
          refine Cd.ret ⟨.bool false, ret1 rfl rfl, [], Keep.nil, congrArg Value.bool ?_, rfl⟩
          exact (decide_eq_false fun e => of_decide_eq_false h3 (congrArg RIns.b e : a.bare.b = b.bare.b)).symm
      | false =>
        refine Cd.region ?_
        refine Ol.p (fdl fd_api_Ins_0) ?_
        refine Ol.p (ld (v := .int .i64 a.op) one_api_Op (Rd.blk (i := 1) rfl rfl)) ?_
        refine Ol.p (fdl fd_api_Ins_0) ?_
        refine Ol.p (ld (v := .int .i64 b.op) one_api_Op (Rd.blk (i := 0) rfl rfl)) ?_
        refine Ol.p eqi ?_
        refine Ol.p mvb ?_
        refine Ol.gp h0 (fdl fd_api_Ins_1) ?_
        refine Ol.gp h0 (ld (v := .int .i64 a.dst) one_int (Rd.blk (i := 1) rfl rfl)) ?_
        refine Ol.gp h0 (fdl fd_api_Ins_1) ?_
        refine Ol.gp h0 (ld (v := .int .i64 b.dst) one_int (Rd.blk (i := 0) rfl rfl)) ?_
        refine Ol.gp h0 eqi ?_
        refine Ol.p (pkTb h0) ?_
        refine Ol.p mvb ?_
        refine Ol.gp h1 (fdl fd_api_Ins_2) ?_
        refine Ol.gp h1 (ld (v := .int .i64 a.a) one_int (Rd.blk (i := 1) rfl rfl)) ?_
        refine Ol.gp h1 (fdl fd_api_Ins_2) ?_
        refine Ol.gp h1 (ld (v := .int .i64 b.a) one_int (Rd.blk (i := 0) rfl rfl)) ?_
        refine Ol.gp h1 eqi ?_
        refine Ol.p (pkTb h1) ?_
        refine Ol.p mvb ?_
        refine Ol.gn h2 ?_
        refine Ol.gn h2 ?_
        refine Ol.gn h2 ?_
        refine Ol.gn h2 ?_
        refine Ol.gn h2 ?_
        refine Ol.p (pkFb h2) ?_
        refine Ol.p mvb ?_
        refine Ol.gn rfl ?_
        refine Ol.gn rfl ?_
        refine Ol.gn rfl ?_
        refine Ol.gn rfl ?_
        refine Ol.gn rfl ?_
        refine Ol.p (pkFb rfl) ?_
        refine Ol.p mvb ?_
        refine Ol.gn rfl ?_
        refine Ol.gn rfl ?_
        refine Ol.gn rfl ?_
        refine Ol.gn rfl ?_
        refine Ol.gn rfl ?_
        refine Ol.p (pkFb rfl) ?_
        refine Ol.p mvb ?_
        refine Ol.gn rfl ?_
        refine Ol.gn rfl ?_
        refine Ol.gn rfl ?_
        refine Ol.gn rfl ?_
        refine Ol.gn rfl ?_
        refine Ol.p (pkFb rfl) ?_
        refine Ol.p mvb ?_
        refine Ol.gn rfl ?_
        refine Ol.gn rfl ?_
        refine Ol.gn rfl ?_
        refine Ol.gn rfl ?_
        refine Ol.gn rfl ?_
        refine Ol.p (pkFb rfl) ?_
        refine Ol.p asb ?_
        refine Ol.nil ?_
        refine Cd.ret ⟨.bool false, ret1 rfl rfl, [], Keep.nil, congrArg Value.bool ?_, rfl⟩
        exact (decide_eq_false fun e => of_decide_eq_false h2 (congrArg RIns.a e : a.bare.a = b.bare.a)).symm
    | false =>
      refine Cd.region ?_
      refine Ol.p (fdl fd_api_Ins_0) ?_
      refine Ol.p (ld (v := .int .i64 a.op) one_api_Op (Rd.blk (i := 1) rfl rfl)) ?_
      refine Ol.p (fdl fd_api_Ins_0) ?_
      refine Ol.p (ld (v := .int .i64 b.op) one_api_Op (Rd.blk (i := 0) rfl rfl)) ?_
      refine Ol.p eqi ?_
      refine Ol.p mvb ?_
      refine Ol.gp h0 (fdl fd_api_Ins_1) ?_
      refine Ol.gp h0 (ld (v := .int .i64 a.dst) one_int (Rd.blk (i := 1) rfl rfl)) ?_
      refine Ol.gp h0 (fdl fd_api_Ins_1) ?_
      refine Ol.gp h0 (ld (v := .int .i64 b.dst) one_int (Rd.blk (i := 0) rfl rfl)) ?_
      refine Ol.gp h0 eqi ?_
      refine Ol.p (pkTb h0) ?_
      refine Ol.p mvb ?_
      refine Ol.gn h1 ?_
      refine Ol.gn h1 ?_
      refine Ol.gn h1 ?_
      refine Ol.gn h1 ?_
      refine Ol.gn h1 ?_
      refine Ol.p (pkFb h1) ?_
      refine Ol.p mvb ?_
      refine Ol.gn rfl ?_
      refine Ol.gn rfl ?_
      refine Ol.gn rfl ?_
      refine Ol.gn rfl ?_
      refine Ol.gn rfl ?_
      refine Ol.p (pkFb rfl) ?_
      refine Ol.p mvb ?_
      refine Ol.gn rfl ?_
      refine Ol.gn rfl ?_
      refine Ol.gn rfl ?_
      refine Ol.gn rfl ?_
      refine Ol.gn rfl ?_
      refine Ol.p (pkFb rfl) ?_
      refine Ol.p mvb ?_
      refine Ol.gn rfl ?_
      refine Ol.gn rfl ?_
      refine Ol.gn rfl ?_
      refine Ol.gn rfl ?_
      refine Ol.gn rfl ?_
      refine Ol.p (pkFb rfl) ?_
      refine Ol.p mvb ?_
      refine Ol.gn rfl ?_
      refine Ol.gn rfl ?_
      refine Ol.gn rfl ?_
      refine Ol.gn rfl ?_
      refine Ol.gn rfl ?_
      refine Ol.p (pkFb rfl) ?_
      refine Ol.p mvb ?_
      refine Ol.gn rfl ?_
      refine Ol.gn rfl ?_
      refine Ol.gn rfl ?_
      refine Ol.gn rfl ?_
      refine Ol.gn rfl ?_
      refine Ol.p (pkFb rfl) ?_
      refine Ol.p asb ?_
      refine Ol.nil ?_
      refine Cd.ret ⟨.bool false, ret1 rfl rfl, [], Keep.nil, congrArg Value.bool ?_, rfl⟩
      exact (decide_eq_false fun e => of_decide_eq_false h1 (congrArg RIns.dst e : a.bare.dst = b.bare.dst)).symm
  | false =>
    refine Cd.region ?_
    refine Ol.p (fdl fd_api_Ins_0) ?_
    refine Ol.p (ld (v := .int .i64 a.op) one_api_Op (Rd.blk (i := 1) rfl rfl)) ?_
    refine Ol.p (fdl fd_api_Ins_0) ?_
    refine Ol.p (ld (v := .int .i64 b.op) one_api_Op (Rd.blk (i := 0) rfl rfl)) ?_
    refine Ol.p eqi ?_
    refine Ol.p mvb ?_
    refine Ol.gn h0 ?_
    refine Ol.gn h0 ?_
    refine Ol.gn h0 ?_
    refine Ol.gn h0 ?_
    refine Ol.gn h0 ?_
    refine Ol.p (pkFb h0) ?_
    refine Ol.p mvb ?_
    refine Ol.gn rfl ?_
    refine Ol.gn rfl ?_
    refine Ol.gn rfl ?_
    refine Ol.gn rfl ?_
    refine Ol.gn rfl ?_
    refine Ol.p (pkFb rfl) ?_
    refine Ol.p mvb ?_
    refine Ol.gn rfl ?_
    refine Ol.gn rfl ?_
    refine Ol.gn rfl ?_
    refine Ol.gn rfl ?_
    refine Ol.gn rfl ?_
    refine Ol.p (pkFb rfl) ?_
    refine Ol.p mvb ?_
    refine Ol.gn rfl ?_
    refine Ol.gn rfl ?_
    refine Ol.gn rfl ?_
    refine Ol.gn rfl ?_
    refine Ol.gn rfl ?_
    refine Ol.p (pkFb rfl) ?_
    refine Ol.p mvb ?_
    refine Ol.gn rfl ?_
    refine Ol.gn rfl ?_
    refine Ol.gn rfl ?_
    refine Ol.gn rfl ?_
    refine Ol.gn rfl ?_
    refine Ol.p (pkFb rfl) ?_
    refine Ol.p mvb ?_
    refine Ol.gn rfl ?_
    refine Ol.gn rfl ?_
    refine Ol.gn rfl ?_
    refine Ol.gn rfl ?_
    refine Ol.gn rfl ?_
    refine Ol.p (pkFb rfl) ?_
    refine Ol.p mvb ?_
    refine Ol.gn rfl ?_
    refine Ol.gn rfl ?_
    refine Ol.gn rfl ?_
    refine Ol.gn rfl ?_
    refine Ol.gn rfl ?_
    refine Ol.p (pkFb rfl) ?_
    refine Ol.p asb ?_
    refine Ol.nil ?_
    refine Cd.ret ⟨.bool false, ret1 rfl rfl, [], Keep.nil, congrArg Value.bool ?_, rfl⟩
    exact (decide_eq_false fun e => of_decide_eq_false h0 (congrArg RIns.op e : a.bare.op = b.bare.op)).symm
end
theorem bare_ne {α β : Type} {F : α → β} {a b : List α} {k : Nat} {x y : α} (ha : a[k]? = some x) (hb : b[k]? = some y) (h : F x ≠ F y) : a.map F ≠ b.map F := fun e => by
  have := congrArg (fun l : List β => l[k]?) e
  simp only [List.getElem?_map, ha, hb, Option.map_some] at this
  exact h (Option.some.inj this)
section
set_option maxHeartbeats 2000000 in
theorem kit_SameRow_ct {w : World} {A B : Option Addr} {c d : Nat} {a b : List RIns} (hra : Reads w w.heap.size 8 A a.length (a.flatMap RIns.cells)) (hrb : Reads w w.heap.size 8 B b.length (b.flatMap RIns.cells)) (haa : ∀ i ∈ a, Reads w w.heap.size 1 i.aA i.args.length (ints i.args)) (hba : ∀ i ∈ b, Reads w w.heap.size 1 i.aA i.args.length (ints i.args)) (hai : ∀ i ∈ a, i.args.length < 2 ^ 60) (hbi : ∀ i ∈ b, i.args.length < 2 ^ 60) (hal : a.length < 2 ^ 60) (hbl : b.length < 2 ^ 60) :
    Ct Tryz.prog 135 #[.slice A a.length c, .slice B b.length d] w (Is (.bool (decide (a.map RIns.bare = b.map RIns.bare)))) := by
  refine Ct.mk Tryz.func135 rfl rfl ?_
  refine Cd.seq ?_
  refine Cd.region ?_
  refine Ol.p asb ?_
  refine Ol.nil ?_
  refine Cd.seq ?_
  refine Cd.seq ?_
  refine Cd.region ?_
  refine Ol.p mvs ?_
  refine Ol.p (lens sl_L_api_Ins) ?_
  refine Ol.p mvs ?_
  refine Ol.p (lens sl_L_api_Ins) ?_
  refine Ol.p nei ?_
  refine Ol.nil ?_
  refine Cd.cond rfl (fun h => ?_) (fun h => ?_)   -- $10
  · have hne : a.map RIns.bare ≠ b.map RIns.bare := fun e => by
      have := congrArg List.length e
      simp at this
      rw [this] at h
      simp at h
    refine Cd.seq ?_
    refine Cd.region ?_
    refine Ol.p asb ?_
    refine Ol.nil ?_
    exact Cd.ret ⟨.bool false, ret1 rfl rfl, [], .nil, by rw [decide_eq_false hne], rfl⟩
  have hlen : a.length = b.length := by
    have : (a.length : Int) = (b.length : Int) := by simpa using h
    omega
  refine Cd.skip ?_
  refine Cd.seq ?_
  refine Cd.seq ?_
  refine Cd.region ?_
  refine Ol.p asi ?_
  refine Ol.nil ?_
  refine Cd.block ?_   -- 0
  refine Cd.loop (fun m σ L => ∃ k, m = a.length - k ∧ k ≤ a.length ∧ (a.take k).map RIns.bare = (b.take k).map RIns.bare ∧ Has σ [(0, .slice A a.length c), (1, .slice B b.length d), (5, .int .i64 k)] ∧ [] = L) (n := a.length) ⟨0, rfl, Nat.zero_le _, rfl, ⟨rfl, rfl, rfl, trivial⟩, rfl⟩ ?_
  rintro _ σ L ⟨k, rfl, hk, hsame, hs, rfl⟩
  refine Cd.has hs ?_
  refine Cd.seq ?_
  refine Cd.seq ?_
  refine Cd.region ?_
  refine Ol.p mvi ?_
  refine Ol.p mvs ?_
  refine Ol.p (lens sl_L_api_Ins) ?_
  refine Ol.p lsi ?_
  refine Ol.nil ?_
  refine Cd.cond rfl (fun h => ?_) (fun h => ?_)   -- $14
  · have hlt : k < a.length := by
      simp only [decide_eq_true_eq] at h; omega
    obtain ⟨x, hx⟩ : ∃ x, a[k]? = some x := ⟨_, List.getElem?_eq_getElem hlt⟩
    obtain ⟨y, hy⟩ : ∃ y, b[k]? = some y := ⟨_, List.getElem?_eq_getElem (by omega)⟩
    have hxm := List.mem_of_getElem? hx
    have hym := List.mem_of_getElem? hy
    refine Cd.skip ?_
    refine Cd.seq ?_
    refine Cd.block ?_   -- 1
    refine Cd.seq ?_
    refine Cd.draw mixed 10 (exIs (fun opNo => match opNo with | 8 => some (.bool (decide (x.bare = y.bare))) | _ => none)) (fun _ => []) (by kernel_rfl) exIs_in (fun u hu => ?_)
    refine Wk.p mvs ?_
    refine Wk.p mvi ?_
    refine Wk.p (ixn (ix := k) sl_L_api_Ins (Som.slc hra (by omega))) ?_
    refine Wk.p (lds (es := x.cells) ag_api_Ins hra x.len (fun j u hu => ins_cell hx hu)) ?_
    refine Wk.p mvs ?_
    refine Wk.p mvi ?_
    refine Wk.p (ixn (ix := k) sl_L_api_Ins (Som.slc hrb (by omega))) ?_
    refine Wk.p (lds (es := y.cells) ag_api_Ins hrb y.len (fun j u hu => ins_cell hy hu)) ?_
    refine Wk.dk hu (sp_call en_kit_SameIns (fun M w' hh => kit_SameIns_ct ((haa x hxm).now hh) ((hba y hym).now hh) (hai x hxm) (hbi y hym))) ?_
    refine Wk.p noti ?_
    refine Wk.nil ?_
    rw [needs_exIs hu rfl]
    refine Ol.nil ?_
    refine Cd.cond rfl (fun h => ?_) (fun h => ?_)   -- $26
    · have hne : x.bare ≠ y.bare := by simpa using h
      refine Cd.seq ?_
      refine Cd.region ?_
      refine Ol.p asb ?_
      refine Ol.nil ?_
      exact Cd.ret ⟨.bool false, ret1 rfl rfl, [], .nil, by rw [decide_eq_false (bare_ne hx hy hne)], rfl⟩
    have heq : x.bare = y.bare := by simpa using h
    refine Cd.skip ?_
    refine Cd.region ?_
    refine Ol.p mvi ?_
    refine Ol.p addi ?_
    refine Ol.p asi ?_
    refine Ol.nil ?_
    refine ⟨a.length - (k + 1), by omega, k + 1, rfl, by omega, ?_, ⟨rfl, rfl, rfl, trivial⟩, rfl⟩
    rw [take_snoc_ hx, take_snoc_ hy, List.map_append, List.map_append, hsame, List.map_singleton, List.map_singleton, heq]
  have hke : k = a.length := by
    simp only [decide_eq_false_iff_not] at h; omega
  have heq : a.map RIns.bare = b.map RIns.bare := by
    rw [hke, List.take_of_length_le (Nat.le_refl _), hlen, List.take_of_length_le (Nat.le_refl _)] at hsame
    exact hsame
  refine Cd.exit (id := 0) ?_
  refine Cd.seq ?_
  refine Cd.region ?_
  refine Ol.p asb ?_
  refine Ol.nil ?_
  exact Cd.ret ⟨.bool true, ret1 rfl rfl, [], .nil, by rw [decide_eq_true heq], rfl⟩
end
end Go.Proofs.YtjenaenakopicaaGreat

/- Ends, compared: a struct with an array in it. -/
namespace Go.Proofs.YtjenaenakopicaaGreat
set_option linter.unusedVariables false
open Go Go.RowKit
section
variable {P : Program} {w0 : World} {B : Nat} {σ : Env} {L : List Res} {d : Option Nat} {ty T : TypeId} {pos : String} {af : Array Edge} {gd : Option (Nat × Bool)} {x y z : Operand} {v : Value}
theorem run_eqFields_cons {dd : Nat} {xs ys : Array Value} {f : Field} {fs : List Field} {a b : Value} {r : Bool} {w : World} (hn : f.name ≠ "_") (p1 : (part f.type xs f.offset).run P w = .ok a w) (p2 : (part f.type ys f.offset).run P w = .ok b w) (h1 : (Op.equalIn dd f.type a b).run P w = .ok r w) :
    (Op.eqFields dd xs ys (f :: fs)).run P w = if r = true then (Op.eqFields dd xs ys fs).run P w else .ok false w := by
  simp only [Op.eqFields, hn, ne_eq, not_false_eq_true, if_true, Sem.run_bind, p1, p2, h1, Result.andThen_ok]
  cases r <;> simp
def itB (P : Program) (e : TypeId) : Bool := (match P.underlying e with | some (.int _) => true | _ => false) && decide ((P.info? e).map (·.size) = some 1)
theorem itB_prim {e : TypeId} (h : itB P e = true) : ∃ k, primT P e (.int k) := by
  unfold itB at h
  rw [Bool.and_eq_true, decide_eq_true_eq] at h
  obtain ⟨h1, h2⟩ := h
  split at h1
  · rename_i k hk
    exact ⟨k, hk, rfl, h2⟩
  · cases h1
theorem run_equalIn_arr {n dd : Nat} {e T : TypeId} {kd : TypeDesc} {xs ys : Array Value} {r : Bool} (hT : P.underlying T = some (.array n e)) (he : primT P e kd) (hx : xs.size = n) (hy : ys.size = n) (h : ∀ (i : Nat) a b, xs[i]? = some a → ys[i]? = some b → Tell kd a b) (hr : r = true ↔ xs = ys) (w : World) : (Op.equalIn (dd + 2) T (.agg xs) (.agg ys)).run P w = .ok r w := by
  obtain ⟨i, hi, hs⟩ := info_of he.2.2
  have hc : P.cellsOf e = 1 := by simp [Program.cellsOf, hi, hs]
  have := run_equalIn_array (P := P) w (dd + 1) xs ys hT hi
  rw [hc, run_eqItems_prim (dd := dd) he w (List.range n) (fun i hi => by
    have hi : i < n := by simpa using hi
    exact ⟨xs[i], ys[i], Array.getElem?_eq_getElem _, Array.getElem?_eq_getElem _, h i _ _ (Array.getElem?_eq_getElem (by omega)) (Array.getElem?_eq_getElem (by omega))⟩) r (by
    rw [hr]
    constructor
    · rintro rfl i _; rfl
    · intro h
      apply Array.ext_getElem?
      intro i
      by_cases hi : i < n
      · exact h i (by simpa using hi)
      · rw [Array.getElem?_eq_none (by omega), Array.getElem?_eq_none (by omega)])] at this
  exact this
/-- A struct of two numbers and of two in an array. -/
def stT (P : Program) (T : TypeId) : Bool := match P.underlying T with
  | some (.struct fs) => (match fs.toList with
    | [f, g, h] => decide (f.name ≠ "_") && decide (g.name ≠ "_") && decide (h.name ≠ "_") && decide (f.offset = 0) && decide (g.offset = 1) && decide (h.offset = 2) && itB P f.type && itB P g.type && (match P.underlying h.type with | some (.array n e) => decide (n = 2) && itB P e && decide ((P.info? h.type).map (·.size) = some 2) | _ => false)
    | _ => false) && !P.stoodInHeld T && !P.eqGuardType P.depth T
  | _ => false
theorem run_equal_tm (hT : stT P T = true) (s t : Tm) (w : World) : (Op.equal T s.val t.val).run P w = .ok (decide (s = t)) w ∧ P.eqGuardType P.depth T = false := by
  unfold stT at hT
  split at hT
  · rename_i fs hu
    simp only [Bool.and_eq_true, Bool.not_eq_true'] at hT
    obtain ⟨⟨hT, h3⟩, h4⟩ := hT
    refine ⟨?_, h4⟩
    split at hT
    · rename_i f g h hfs
      simp only [Bool.and_eq_true, decide_eq_true_eq] at hT
      obtain ⟨⟨⟨⟨⟨⟨⟨⟨n1, n2⟩, n3⟩, o1⟩, o2⟩, o3⟩, i1⟩, i2⟩, hA⟩ := hT
      split at hA
      · rename_i n e hua
        simp only [Bool.and_eq_true, decide_eq_true_eq] at hA
        obtain ⟨⟨rfl, i3⟩, hsz⟩ := hA
        obtain ⟨ia, hia, hsa⟩ := info_of hsz
        obtain ⟨k1, p1⟩ := itB_prim i1
        obtain ⟨k2, p2⟩ := itB_prim i2
        obtain ⟨k3, p3⟩ := itB_prim i3
        have hf : P.fieldsOf T = fs := by simp [Program.fieldsOf, hu]
        have := run_equalIn_struct (P := P) w 9999 T s.cells.toArray t.cells.toArray (by rw [hf]; exact hu) h3
        have e : (Op.equal T s.val t.val).run P w = (Op.equalIn (9999 + 1) T (.agg s.cells.toArray) (.agg t.cells.toArray)).run P w := rfl
        rw [e, this, hf, hfs]
        have pa : ∀ u : Tm, (part h.type u.cells.toArray h.offset).run P w = .ok (.agg #[.int .i64 u.t0, .int .i64 u.t1]) w := fun u => by
          rw [o3]
          simp [part, isAgg, run_underlying hua, run_sizeOf w hia, hsa, Tm.cells, Program.cellsOf, hia]
        rw [run_eqFields_cons (r := decide (s.kind = t.kind)) n1 (run_part_one p1.one (v := .int .i64 s.kind) (by rw [o1]; rfl) w) (run_part_one p1.one (v := .int .i64 t.kind) (by rw [o1]; rfl) w) (run_eq_prim (dd := 9998) p1.1 (by simp [Instr.sameNow]; rfl) w)]
        rw [run_eqFields_cons (r := decide (s.a = t.a)) n2 (run_part_one p2.one (v := .int .i64 s.a) (by rw [o2]; rfl) w) (run_part_one p2.one (v := .int .i64 t.a) (by rw [o2]; rfl) w) (run_eq_prim (dd := 9998) p2.1 (by simp [Instr.sameNow]; rfl) w)]
        rw [run_eqFields_cons (r := decide (s.t0 = t.t0 ∧ s.t1 = t.t1)) n3 (pa s) (pa t) (run_equalIn_arr (dd := 9997) hua p3 rfl rfl (fun i a b ha hb => by
          match i, ha, hb with
          | 0, ha, hb => cases ha; cases hb; exact Tell.int
          | 1, ha, hb => cases ha; cases hb; exact Tell.int
          | i + 2, ha, _ => simp at ha) (by simp) w)]
        have e0 : (Op.eqFields 9999 s.cells.toArray t.cells.toArray []).run P w = .ok true w := by simp [Op.eqFields]
        rw [e0]
        obtain ⟨s1, s2, s3, s4⟩ := s
        obtain ⟨t1, t2, t3, t4⟩ := t
        simp only [Tm.mk.injEq, decide_eq_true_eq]
        by_cases q1 : s1 = t1
        · by_cases q2 : s2 = t2
          · by_cases q3 : s3 = t3 ∧ s4 = t4
            · simp [q1, q2, q3]
            · simp [q1, q2, q3]
          · simp [q1, q2]
        · simp [q1]
      · cases hA
    · cases hT
  · cases hT
theorem eqT {u : TypeId} {s t : Tm} (hT : stT P T = true) (hx : ev σ x = s.val := by exact rfl) (hy : ev σ y = t.val := by exact rfl) :
    Sd P w0 B ⟨d, .binOp .eql T x y u, ty, pos, af, gd⟩ σ L (.bool (decide (s = t))) := sp_val fun w => by
  obtain ⟨h1, h2⟩ := run_equal_tm hT s t w
  have h2' : ∀ a b : Array Value, (eqGuard .eql T x y (.agg a) (.agg b)).run P w = .ok () w := fun a b => eqGuard_agg h2
  simp only [execOp, hx, hy, binOp, Tm.val] at h1 ⊢
  simp [h2', h1]
end
theorem st_api_Term : stT Tryz.prog 30 = true := by kernel_rfl
end Go.Proofs.YtjenaenakopicaaGreat

/- The kit: whole functions are compared, walked. -/
namespace Go.Proofs.YtjenaenakopicaaGreat
set_option linter.unusedVariables false
open Go Go.RowKit
set_option maxRecDepth 100000

/-- Where a block's lists lie. -/
structure BlkR (w : World) (B : Nat) (x : RBlk) : Prop where
  ins : Reads w B 8 x.iA x.ins.length (x.ins.flatMap RIns.cells)
  args : ∀ i ∈ x.ins, Reads w B 1 i.aA i.args.length (ints i.args)
  alen : ∀ i ∈ x.ins, i.args.length < 2 ^ 60
  ilen : x.ins.length < 2 ^ 60
theorem BlkR.now {w0 w : World} {B : Nat} {L : List Res} {x : RBlk} (h : BlkR w0 B x) (hh : Hp w0 B L w) : BlkR w w.heap.size x := ⟨h.ins.now hh, fun i hi => (h.args i hi).now hh, h.alen, h.ilen⟩
section
set_option maxHeartbeats 1000000 in
theorem kit_SameBlock_ct {w : World} {a b : RBlk} (ha : BlkR w w.heap.size a) (hb : BlkR w w.heap.size b) : Ct Tryz.prog 98 #[a.val, b.val] w (Is (.bool (decide (a.bare = b.bare)))) := by
  refine Ct.mk Tryz.func98 rfl rfl ?_
  refine Cd.seq ?_
  refine Cd.region ?_
  refine Ol.x bxg ?_
  rintro _ _ ⟨g2, rfl, rfl⟩
  refine Ol.x bxg ?_
  rintro _ _ ⟨g3, rfl, rfl⟩
  refine Ol.p asb ?_
  refine Ol.nil ?_
  refine Cd.seq ?_
  cases h0 : decide (a.ins.map RIns.bare = b.ins.map RIns.bare) with
  | true =>
    refine Cd.region ?_
    refine Ol.p (fdl fd_api_Block_0) ?_
    refine Ol.p (ld (v := .slice a.iA a.ins.length a.iC) one_L_api_Ins (Rd.blk (i := 1) rfl rfl)) ?_
    refine Ol.p (fdl fd_api_Block_0) ?_
    refine Ol.p (ld (v := .slice b.iA b.ins.length b.iC) one_L_api_Ins (Rd.blk (i := 0) rfl rfl)) ?_
    refine Ol.s (cl en_kit_SameRow (fun M w' hh => kit_SameRow_ct (ha.ins.now hh) (hb.ins.now hh) (fun i hi => (ha.args i hi).now hh) (fun i hi => (hb.args i hi).now hh) ha.alen hb.alen ha.ilen hb.ilen)) ?_
    refine Ol.p mvb ?_
    refine Ol.gp h0 (fdl fd_api_Block_1) ?_
    refine Ol.gp h0 (ldp (k := 0 + 1) (vs := a.term.cells.toArray) ag_api_Term (i := 1) rfl rfl (fun j u hu => by rw [Nat.zero_add, Nat.add_comm]; simpa [RBlk.cells] using hu)) ?_
    refine Ol.gp h0 (fdl fd_api_Block_1) ?_
    refine Ol.gp h0 (ldp (k := 0 + 1) (vs := b.term.cells.toArray) ag_api_Term (i := 0) rfl rfl (fun j u hu => by rw [Nat.zero_add, Nat.add_comm]; simpa [RBlk.cells] using hu)) ?_
    refine Ol.gp h0 (eqT (s := a.term) (t := b.term) st_api_Term) ?_
    refine Ol.p (pkTb h0) ?_
    refine Ol.p asb ?_
    refine Ol.nil ?_
    refine Cd.ret ⟨.bool _, ret1 rfl rfl, [], Keep.nil, congrArg Value.bool ?_, rfl⟩
    have q0 := of_decide_eq_true h0
    rw [decide_eq_decide]
    unfold RBlk.bare
    simp [q0]
  | false =>
    refine Cd.region ?_
    refine Ol.p (fdl fd_api_Block_0) ?_
    refine Ol.p (ld (v := .slice a.iA a.ins.length a.iC) one_L_api_Ins (Rd.blk (i := 1) rfl rfl)) ?_
    refine Ol.p (fdl fd_api_Block_0) ?_
    refine Ol.p (ld (v := .slice b.iA b.ins.length b.iC) one_L_api_Ins (Rd.blk (i := 0) rfl rfl)) ?_
    refine Ol.s (cl en_kit_SameRow (fun M w' hh => kit_SameRow_ct (ha.ins.now hh) (hb.ins.now hh) (fun i hi => (ha.args i hi).now hh) (fun i hi => (hb.args i hi).now hh) ha.alen hb.alen ha.ilen hb.ilen)) ?_
    refine Ol.p mvb ?_
    refine Ol.gn h0 ?_
    refine Ol.gn h0 ?_
    refine Ol.gn h0 ?_
    refine Ol.gn h0 ?_
    refine Ol.gn h0 ?_
    refine Ol.p (pkFb h0) ?_
    refine Ol.p asb ?_
    refine Ol.nil ?_
    refine Cd.ret ⟨.bool false, ret1 rfl rfl, [], Keep.nil, congrArg Value.bool ?_, rfl⟩
    exact (decide_eq_false fun e => of_decide_eq_false h0 (congrArg RBlk.ins e : a.bare.ins = b.bare.ins)).symm
end
section
set_option maxHeartbeats 2000000 in
theorem kit_SameBlocks_ct {w : World} {A B : Option Addr} {c d : Nat} {a b : List RBlk} (hra : Reads w w.heap.size 5 A a.length (a.flatMap RBlk.cells)) (hrb : Reads w w.heap.size 5 B b.length (b.flatMap RBlk.cells)) (haa : ∀ x ∈ a, BlkR w w.heap.size x) (hba : ∀ x ∈ b, BlkR w w.heap.size x) (hal : a.length < 2 ^ 60) (hbl : b.length < 2 ^ 60) :
    Ct Tryz.prog 96 #[.slice A a.length c, .slice B b.length d] w (Is (.bool (decide (a.map RBlk.bare = b.map RBlk.bare)))) := by
  refine Ct.mk Tryz.func96 rfl rfl ?_
  refine Cd.seq ?_
  refine Cd.region ?_
  refine Ol.p asb ?_
  refine Ol.nil ?_
  refine Cd.seq ?_
  refine Cd.seq ?_
  refine Cd.region ?_
  refine Ol.p mvs ?_
  refine Ol.p (lens sl_L_api_Block) ?_
  refine Ol.p mvs ?_
  refine Ol.p (lens sl_L_api_Block) ?_
  refine Ol.p nei ?_
  refine Ol.nil ?_
  refine Cd.cond rfl (fun h => ?_) (fun h => ?_)   -- $10
  · have hne : a.map RBlk.bare ≠ b.map RBlk.bare := fun e => by
      have := congrArg List.length e
      simp at this
      rw [this] at h
      simp at h
    refine Cd.seq ?_
    refine Cd.region ?_
    refine Ol.p asb ?_
    refine Ol.nil ?_
    exact Cd.ret ⟨.bool false, ret1 rfl rfl, [], .nil, by rw [decide_eq_false hne], rfl⟩
  have hlen : a.length = b.length := by
    have : (a.length : Int) = (b.length : Int) := by simpa using h
    omega
  refine Cd.skip ?_
  refine Cd.seq ?_
  refine Cd.seq ?_
  refine Cd.region ?_
  refine Ol.p asi ?_
  refine Ol.nil ?_
  refine Cd.block ?_   -- 0
  refine Cd.loop (fun m σ L => ∃ k, m = a.length - k ∧ k ≤ a.length ∧ (a.take k).map RBlk.bare = (b.take k).map RBlk.bare ∧ Has σ [(0, .slice A a.length c), (1, .slice B b.length d), (5, .int .i64 k)] ∧ [] = L) (n := a.length) ⟨0, rfl, Nat.zero_le _, rfl, ⟨rfl, rfl, rfl, trivial⟩, rfl⟩ ?_
  rintro _ σ L ⟨k, rfl, hk, hsame, hs, rfl⟩
  refine Cd.has hs ?_
  refine Cd.seq ?_
  refine Cd.seq ?_
  refine Cd.region ?_
  refine Ol.p mvi ?_
  refine Ol.p mvs ?_
  refine Ol.p (lens sl_L_api_Block) ?_
  refine Ol.p lsi ?_
  refine Ol.nil ?_
  refine Cd.cond rfl (fun h => ?_) (fun h => ?_)   -- $14
  · have hlt : k < a.length := by
      simp only [decide_eq_true_eq] at h; omega
    obtain ⟨x, hx⟩ : ∃ x, a[k]? = some x := ⟨_, List.getElem?_eq_getElem hlt⟩
    obtain ⟨y, hy⟩ : ∃ y, b[k]? = some y := ⟨_, List.getElem?_eq_getElem (by omega)⟩
    have hxm := List.mem_of_getElem? hx
    have hym := List.mem_of_getElem? hy
    refine Cd.skip ?_
    refine Cd.seq ?_
    refine Cd.block ?_   -- 1
    refine Cd.seq ?_
    refine Cd.draw mixed 10 (exIs (fun opNo => match opNo with | 8 => some (.bool (decide (x.bare = y.bare))) | _ => none)) (fun _ => []) (by kernel_rfl) exIs_in (fun u hu => ?_)
    refine Wk.p mvs ?_
    refine Wk.p mvi ?_
    refine Wk.p (ixn (ix := k) sl_L_api_Block (Som.slc hra (by omega))) ?_
    refine Wk.p (lds (es := x.cells) ag_api_Block hra x.len (fun j u hu => blk_cell hx hu)) ?_
    refine Wk.p mvs ?_
    refine Wk.p mvi ?_
    refine Wk.p (ixn (ix := k) sl_L_api_Block (Som.slc hrb (by omega))) ?_
    refine Wk.p (lds (es := y.cells) ag_api_Block hrb y.len (fun j u hu => blk_cell hy hu)) ?_
    refine Wk.dk hu (sp_call en_kit_SameBlock (fun M w' hh => kit_SameBlock_ct ((haa x hxm).now hh) ((hba y hym).now hh))) ?_
    refine Wk.p noti ?_
    refine Wk.nil ?_
    rw [needs_exIs hu rfl]
    refine Ol.nil ?_
    refine Cd.cond rfl (fun h => ?_) (fun h => ?_)   -- $26
    · have hne : x.bare ≠ y.bare := by simpa using h
      refine Cd.seq ?_
      refine Cd.region ?_
      refine Ol.p asb ?_
      refine Ol.nil ?_
      exact Cd.ret ⟨.bool false, ret1 rfl rfl, [], .nil, by rw [decide_eq_false (bare_ne hx hy hne)], rfl⟩
    have heq : x.bare = y.bare := by simpa using h
    refine Cd.skip ?_
    refine Cd.region ?_
    refine Ol.p mvi ?_
    refine Ol.p addi ?_
    refine Ol.p asi ?_
    refine Ol.nil ?_
    refine ⟨a.length - (k + 1), by omega, k + 1, rfl, by omega, ?_, ⟨rfl, rfl, rfl, trivial⟩, rfl⟩
    rw [take_snoc_ hx, take_snoc_ hy, List.map_append, List.map_append, hsame, List.map_singleton, List.map_singleton, heq]
  have hke : k = a.length := by
    simp only [decide_eq_false_iff_not] at h; omega
  have heq : a.map RBlk.bare = b.map RBlk.bare := by
    rw [hke, List.take_of_length_le (Nat.le_refl _), hlen, List.take_of_length_le (Nat.le_refl _)] at hsame
    exact hsame
  refine Cd.exit (id := 0) ?_
  refine Cd.seq ?_
  refine Cd.region ?_
  refine Ol.p asb ?_
  refine Ol.nil ?_
  exact Cd.ret ⟨.bool true, ret1 rfl rfl, [], .nil, by rw [decide_eq_true heq], rfl⟩
end
section
set_option maxHeartbeats 1000000 in
theorem kit_SameFunc_ct {w : World} {f g : RFun} (hf : FunAt w w.heap.size f) (hg : FunAt w w.heap.size g) (hff : FitC f) (hgf : FitC g) : Ct Tryz.prog 59 #[f.val, g.val] w (Is (.bool (decide (f.bare = g.bare)))) := by
  have hfp := hff.plen
  have hgp := hgf.plen
  have hfb := hff.blen
  have hgb := hgf.blen
  have hfr : ∀ x ∈ f.blocks, BlkR w w.heap.size x := fun x hx => ⟨hf.ins x hx, hf.args x hx, fun i hi => by have := hff.alen x hx i hi; omega, by have := hff.ilen x hx; omega⟩
  have hgr : ∀ x ∈ g.blocks, BlkR w w.heap.size x := fun x hx => ⟨hg.ins x hx, hg.args x hx, fun i hi => by have := hgf.alen x hx i hi; omega, by have := hgf.ilen x hx; omega⟩
  refine Ct.mk Tryz.func59 rfl rfl ?_
  refine Cd.seq ?_
  refine Cd.region ?_
  refine Ol.x bxg ?_
  rintro _ _ ⟨g2, rfl, rfl⟩
  refine Ol.x bxg ?_
  rintro _ _ ⟨g3, rfl, rfl⟩
  refine Ol.p asb ?_
  refine Ol.nil ?_
  refine Cd.seq ?_
  cases h0 : decide (f.params = g.params) with
  | true =>
    refine Cd.region ?_
    refine Ol.p (fdl fd_api_Func_0) ?_
    refine Ol.p (ld (v := .slice f.pA f.params.length f.pC) one_L_int (Rd.blk (i := 1) rfl rfl)) ?_
    refine Ol.p (fdl fd_api_Func_0) ?_
    refine Ol.p (ld (v := .slice g.pA g.params.length g.pC) one_L_int (Rd.blk (i := 0) rfl rfl)) ?_
    refine Ol.s (cl en_kit_SameInts (fun M w' hh => kit_SameInts_ct (hf.params.now hh) (hg.params.now hh) (by omega) (by omega))) ?_
    refine Ol.p mvb ?_
    refine Ol.gp h0 (fdl fd_api_Func_1) ?_
    refine Ol.gp h0 (ld (v := .slice f.bA f.blocks.length f.bC) one_L_api_Block (Rd.blk (i := 1) rfl rfl)) ?_
    refine Ol.gp h0 (fdl fd_api_Func_1) ?_
    refine Ol.gp h0 (ld (v := .slice g.bA g.blocks.length g.bC) one_L_api_Block (Rd.blk (i := 0) rfl rfl)) ?_
    refine Ol.gs h0 (cl en_kit_SameBlocks (fun M w' hh => kit_SameBlocks_ct (hf.blocks.now hh) (hg.blocks.now hh) (fun x hx => (hfr x hx).now hh) (fun x hx => (hgr x hx).now hh) (by omega) (by omega))) ?_
    refine Ol.p (pkTb h0) ?_
    refine Ol.p asb ?_
    refine Ol.nil ?_
    refine Cd.ret ⟨.bool _, ret1 rfl rfl, [], Keep.nil, congrArg Value.bool ?_, rfl⟩
    have q0 := of_decide_eq_true h0
    rw [decide_eq_decide]
    unfold RFun.bare
    simp [q0]
  | false =>
    refine Cd.region ?_
    refine Ol.p (fdl fd_api_Func_0) ?_
    refine Ol.p (ld (v := .slice f.pA f.params.length f.pC) one_L_int (Rd.blk (i := 1) rfl rfl)) ?_
    refine Ol.p (fdl fd_api_Func_0) ?_
    refine Ol.p (ld (v := .slice g.pA g.params.length g.pC) one_L_int (Rd.blk (i := 0) rfl rfl)) ?_
    refine Ol.s (cl en_kit_SameInts (fun M w' hh => kit_SameInts_ct (hf.params.now hh) (hg.params.now hh) (by omega) (by omega))) ?_
    refine Ol.p mvb ?_
    refine Ol.gn h0 ?_
    refine Ol.gn h0 ?_
    refine Ol.gn h0 ?_
    refine Ol.gn h0 ?_
    refine Ol.gn h0 ?_
    refine Ol.p (pkFb h0) ?_
    refine Ol.p asb ?_
    refine Ol.nil ?_
    refine Cd.ret ⟨.bool false, ret1 rfl rfl, [], Keep.nil, congrArg Value.bool ?_, rfl⟩
    exact (decide_eq_false fun e => of_decide_eq_false h0 (congrArg RFun.params e : f.bare.params = g.bare.params)).symm
end
end Go.Proofs.YtjenaenakopicaaGreat

/- The kit: what is lent lies ahead of marks, and is looked at again, walked. -/
namespace Go.Proofs.YtjenaenakopicaaGreat
set_option linter.unusedVariables false
set_option linter.unusedSimpArgs false
open Go Go.RowKit
set_option maxRecDepth 100000

theorem Cd.capl {C : Ctx} {k : Code} {Q : Exit → Env → List Res → Prop} {σ : Env} {L : List Res} {i n c e s : Nat} {A : Option Addr} {xs : List Value} (hi : L[i]? = some (row (.slice A n c) e s n xs)) (hc : n ≤ c → Cd C k Q σ L) : Cd C k Q σ L := fun a w ha hs =>
  hc (cap_row (hs.heap.at_ hi)) a w ha hs
def mkN (k i : Nat) : Int := ((1000003 * (k + 7) + i : Nat) : Int)
def MI (k i : Nat) : RIns := ⟨0, 0, 0, 0, mkN k i, 0, none, 0, [], 0⟩
def MB (k i : Nat) : RBlk := ⟨none, 0, [], ⟨0, mkN k i, 0, 0⟩⟩
/-- The marks behind a list. -/
def mkL (j : Nat) : List Int := (List.range j).map (mkN 1)
def mkIL (j : Nat) : List RIns := (List.range j).map (MI 1)
def mkBL (j : Nat) : List RBlk := (List.range j).map (MB 1)
theorem mkL_succ (j : Nat) : mkL (j + 1) = mkL j ++ [mkN 1 j] := by simp [mkL, List.range_succ]
theorem mkIL_succ (j : Nat) : mkIL (j + 1) = mkIL j ++ [MI 1 j] := by simp [mkIL, List.range_succ]
theorem mkBL_succ (j : Nat) : mkBL (j + 1) = mkBL j ++ [MB 1 j] := by simp [mkBL, List.range_succ]
theorem mk_at {α : Type} {l : List α} {F : Nat → α} {j : Nat} (hj : j < 12) : (l ++ (List.range 12).map F)[l.length + j]? = some (F j) := by
  rw [List.getElem?_append_right (by omega), Nat.add_sub_cancel_left, List.getElem?_map, List.getElem?_range hj]
  rfl
theorem mk_old {α : Type} {l m : List α} {k : Nat} {x : α} (h : l[k]? = some x) : (l ++ m)[k]? = some x := by
  rw [List.getElem?_append_left (List.getElem?_eq_some_iff.1 h).1]; exact h
def lInt (A : Option Addr) (c : Nat) (l : List Int) : Res := row (.slice A (l.length + 12) c) 3 1 (l.length + 12) (ints (l ++ mkL 12))
def insLent (i : RIns) : Res := lInt i.aA i.aC i.args
def lIns (A : Option Addr) (c : Nat) (l : List RIns) : Res := row (.slice A (l.length + 12) c) 25 8 (l.length + 12) ((l ++ mkIL 12).flatMap RIns.cells)
def blkLent (b : RBlk) : List Res := lIns b.iA b.iC b.ins :: b.ins.map insLent
def lBlk (A : Option Addr) (c : Nat) (l : List RBlk) : Res := row (.slice A (l.length + 12) c) 34 5 (l.length + 12) ((l ++ mkBL 12).flatMap RBlk.cells)
def funLent (f : RFun) : List Res := lInt f.pA f.pC f.params :: lBlk f.bA f.bC f.blocks :: f.blocks.flatMap blkLent
theorem Reads.lentI {w : World} {B : Nat} {A : Option Addr} {l : List Int} (h : Reads w B 1 A (l.length + 12) (ints (l ++ mkL 12))) : Reads w B 1 A l.length (ints l) := by
  have := h.pre (k := l.length) (by omega)
  have e : (ints (l ++ mkL 12)).take (l.length * 1) = ints l := by
    unfold ints
    rw [List.map_append, Nat.mul_one]
    exact List.take_left' (by simp)
  rwa [e] at this
theorem Reads.lentN {w : World} {B : Nat} {A : Option Addr} {l : List RIns} (h : Reads w B 8 A (l.length + 12) ((l ++ mkIL 12).flatMap RIns.cells)) : Reads w B 8 A l.length (l.flatMap RIns.cells) := by
  have := h.pre (k := l.length) (by omega)
  have e : ((l ++ mkIL 12).flatMap RIns.cells).take (l.length * 8) = l.flatMap RIns.cells := by
    rw [List.flatMap_append]
    exact List.take_left' (flat_len RIns.len l)
  rwa [e] at this
theorem Reads.lentB {w : World} {B : Nat} {A : Option Addr} {l : List RBlk} (h : Reads w B 5 A (l.length + 12) ((l ++ mkBL 12).flatMap RBlk.cells)) : Reads w B 5 A l.length (l.flatMap RBlk.cells) := by
  have := h.pre (k := l.length) (by omega)
  have e : ((l ++ mkBL 12).flatMap RBlk.cells).take (l.length * 5) = l.flatMap RBlk.cells := by
    rw [List.flatMap_append]
    exact List.take_left' (flat_len RBlk.len l)
  rwa [e] at this
/-- Where what is lent lies. -/
structure BlkL (w : World) (B : Nat) (x : RBlk) : Prop where
  ins : Reads w B 8 x.iA (x.ins.length + 12) ((x.ins ++ mkIL 12).flatMap RIns.cells)
  ic : x.ins.length + 12 ≤ x.iC
  args : ∀ i ∈ x.ins, Reads w B 1 i.aA (i.args.length + 12) (ints (i.args ++ mkL 12))
  ac : ∀ i ∈ x.ins, i.args.length + 12 ≤ i.aC
theorem BlkL.now {w0 w : World} {B : Nat} {L : List Res} {x : RBlk} (h : BlkL w0 B x) (hh : Hp w0 B L w) : BlkL w w.heap.size x := ⟨h.ins.now hh, h.ic, fun i hi => (h.args i hi).now hh, h.ac⟩
structure LentAt (w : World) (B : Nat) (g : RFun) : Prop where
  params : Reads w B 1 g.pA (g.params.length + 12) (ints (g.params ++ mkL 12))
  pc : g.params.length + 12 ≤ g.pC
  blocks : Reads w B 5 g.bA (g.blocks.length + 12) ((g.blocks ++ mkBL 12).flatMap RBlk.cells)
  bc : g.blocks.length + 12 ≤ g.bC
  blk : ∀ b ∈ g.blocks, BlkL w B b
theorem LentAt.fun_ {w : World} {B : Nat} {g : RFun} (h : LentAt w B g) : FunAt w B g := ⟨h.params.lentI, h.blocks.lentB, fun b hb => (h.blk b hb).ins.lentN, fun b hb i hi => ((h.blk b hb).args i hi).lentI⟩
theorem LentAt.fit {w : World} {B : Nat} {g : RFun} (h : LentAt w B g) (hc : FitC g) : Fit g := ⟨hc.params, hc.plen, hc.blen, by have := h.pc; omega, by have := h.bc; omega, hc.ilen, fun b hb => by have := (h.blk b hb).ic; omega, hc.term, hc.insr, hc.alen, fun b hb i hi => by have := (h.blk b hb).ac i hi; omega, hc.argr⟩
theorem mem_blkLent {f : RFun} {b : RBlk} {r : Res} (hb : b ∈ f.blocks) (hr : r ∈ blkLent b) : r ∈ funLent f := by
  unfold funLent
  exact List.mem_cons_of_mem _ (List.mem_cons_of_mem _ (List.mem_flatMap.2 ⟨b, hb, hr⟩))
theorem LentAt.own {w0 w : World} {B : Nat} {M L : List Res} {g : RFun} (hh : Hp w0 B (M ++ L) w) (hs : ∀ r ∈ funLent g, r ∈ L) : LentAt w w.heap.size g := by
  have key : ∀ {A : Option Addr} {n c e s : Nat} {xs : List Value}, row (.slice A n c) e s n xs ∈ funLent g → Reads w w.heap.size s A n xs := fun hm => by
    obtain ⟨i, hi⟩ := List.mem_iff_getElem?.1 (hs _ hm)
    exact Reads.row hh hi
  have cap : ∀ {A : Option Addr} {n c e s : Nat} {xs : List Value}, row (.slice A n c) e s n xs ∈ funLent g → n ≤ c := fun hm => cap_row (hh.has _ (List.mem_append_right _ (hs _ hm)))
  have h1 : lInt g.pA g.pC g.params ∈ funLent g := List.mem_cons_self ..
  have h2 : lBlk g.bA g.bC g.blocks ∈ funLent g := List.mem_cons_of_mem _ (List.mem_cons_self ..)
  refine ⟨key h1, cap h1, key h2, cap h2, fun b hb => ?_⟩
  have h3 : lIns b.iA b.iC b.ins ∈ funLent g := mem_blkLent hb (List.mem_cons_self ..)
  have h4 : ∀ i ∈ b.ins, insLent i ∈ funLent g := fun i hi => mem_blkLent hb (List.mem_cons_of_mem _ (List.mem_map_of_mem hi))
  exact ⟨key h3, cap h3, fun i hi => key (h4 i hi), fun i hi => cap (h4 i hi)⟩
theorem reads_none_ {w : World} {B s : Nat} : Reads w B s none 0 [] := ⟨by simp, fun h => absurd h (by omega)⟩
section
theorem kit_mark_ct {w : World} {k i : Nat} (hk : k < 100000) (hi : i < 2 ^ 40) : Ct Tryz.prog 54 #[.int .i64 (k : Int), .int .i64 (i : Int)] w (Is (.int .i64 (mkN k i))) := by
  refine Ct.mk Tryz.func54 rfl rfl ?_
  refine Cd.seq ?_
  refine Cd.region ?_
  refine Ol.p asi ?_
  refine Ol.nil ?_
  refine Cd.seq ?_
  refine Cd.region ?_
  refine Ol.p mvi ?_
  refine Ol.p addi ?_
  refine Ol.p muli ?_
  refine Ol.p mvi ?_
  refine Ol.p addi ?_
  refine Ol.p asi ?_
  refine Ol.nil ?_
  exact Cd.ret ⟨.int .i64 _, ret1 rfl rfl, [], Keep.nil, congrArg (Value.int .i64) (by unfold mkN; omega), rfl⟩
end
section
theorem kit_markIns_ct {w : World} {k i : Nat} (hk : k < 100000) (hi : i < 2 ^ 40) : Ct Tryz.prog 140 #[.int .i64 (k : Int), .int .i64 (i : Int)] w (Is (MI k i).val) := by
  refine Ct.mk Tryz.func140 rfl rfl ?_
  refine Cd.seq ?_
  refine Cd.region ?_
  refine Ol.x (alc zr_api_Ins) ?_
  rintro _ _ ⟨g4, rfl, rfl⟩
  refine Ol.nil ?_
  refine Cd.seq ?_
  refine Cd.region ?_
  refine Ol.p mvi ?_
  refine Ol.p mvi ?_
  refine Ol.s (cl en_kit_mark (fun M w' hh => kit_mark_ct hk hi)) ?_
  refine Ol.p (bds (cs := (MI k i).cells.toArray) bs_api_Ins zr_api_Ins (hf := by kernel_rfl)) ?_
  refine Ol.s (stw (vs := (MI k i).cells.toArray) sz_api_Ins rfl (MI k i).one (i := 0) rfl rfl) ?_
  refine Ol.nil ?_
  exact Cd.ret ⟨_, retc rfl ag_api_Ins rfl (i := 0) rfl rfl, [], Keep.nil, rfl, rfl⟩
end
section
theorem kit_markBlock_ct {w : World} {k i : Nat} (hk : k < 100000) (hi : i < 2 ^ 40) : Ct Tryz.prog 93 #[.int .i64 (k : Int), .int .i64 (i : Int)] w (Is (MB k i).val) := by
  refine Ct.mk Tryz.func93 rfl rfl ?_
  refine Cd.seq ?_
  refine Cd.region ?_
  refine Ol.x (alc zr_api_Block) ?_
  rintro _ _ ⟨g4, rfl, rfl⟩
  refine Ol.nil ?_
  refine Cd.seq ?_
  refine Cd.region ?_
  refine Ol.p mvi ?_
  refine Ol.p mvi ?_
  refine Ol.s (cl en_kit_mark (fun M w' hh => kit_mark_ct hk hi)) ?_
  refine Ol.p (bds (cs := #[.int .i64 0, .int .i64 (mkN k i), .int .i64 0, .int .i64 0]) bs_api_Term zr_api_Term (hf := by kernel_rfl)) ?_
  refine Ol.p (bds (cs := (MB k i).cells.toArray) bs_api_Block zr_api_Block (hf := by kernel_rfl)) ?_
  refine Ol.s (stw (vs := (MB k i).cells.toArray) sz_api_Block rfl (MB k i).one (i := 0) rfl rfl) ?_
  refine Ol.nil ?_
  exact Cd.ret ⟨_, retc rfl ag_api_Block rfl (i := 0) rfl rfl, [], Keep.nil, rfl, rfl⟩
end
section
set_option maxHeartbeats 1000000 in
theorem kit_LentInts_ct {w : World} {A : Option Addr} {c : Nat} {l : List Int} (hl : Reads w w.heap.size 1 A l.length (ints l)) (hlen : l.length < 2 ^ 40) : Ct Tryz.prog 14 #[.slice A l.length c] w (fun v R => ∃ A' c', v = .slice A' l.length c' ∧ R = [lInt A' c' l]) := by
  refine Ct.mk Tryz.func14 rfl rfl ?_
  refine Cd.seq ?_
  refine Cd.region ?_
  refine Ol.p ass ?_
  refine Ol.nil ?_
  refine Cd.seq ?_
  refine Cd.region ?_
  refine Ol.p mvs ?_
  refine Ol.p (lens sl_L_int) ?_
  refine Ol.p addi ?_
  refine Ol.x (mks (n := 0) (c := l.length + 12) sl_L_int zr_int (hy := congrArg (Value.int .i64) (show (l.length : Int) + 12 = ((l.length + 12 : Nat) : Int) by omega))) ?_
  rintro _ _ ⟨gm, rfl, rfl⟩
  refine Ol.p ass ?_
  refine Ol.nil ?_
  rw [Nat.zero_mul, List.take_zero]
  refine Cd.seq ?_
  refine Cd.region ?_
  refine Ol.p mvs ?_
  refine Ol.p mvs ?_
  refine Ol.x (apn (i := 0) (n := 0) (xs := []) (m := l.length) sl_L_int zr_int rfl (by decide) rfl (Src.slc hl) (one_ints l) (by unfold maxLen; omega) (by omega)) ?_
  rintro _ _ ⟨A1, c1, rfl, rfl⟩
  refine Ol.p ass ?_
  refine Ol.nil ?_
  rw [Nat.zero_add, List.nil_append]
  refine Cd.seq ?_
  refine Cd.seq ?_
  refine Cd.region ?_
  refine Ol.p asi ?_
  refine Ol.nil ?_
  refine Cd.block ?_
  refine Cd.loop (fun m σ L => ∃ (j : Nat) (A' : Option Addr) (c' : Nat), m = 12 - j ∧ j ≤ 12 ∧ Has σ [(0, .slice A l.length c), (3, .slice A' (l.length + j) c'), (4, .int .i64 j)] ∧ [row (.slice A' (l.length + j) c') 3 1 (l.length + j) (ints (l ++ mkL j))] = L) (n := 12) ⟨0, A1, c1, rfl, Nat.zero_le _, ⟨rfl, rfl, rfl, trivial⟩, by rw [show mkL 0 = [] from rfl, List.append_nil]; rfl⟩ ?_
  rintro _ σ L ⟨j, A', c', rfl, hj, hs, rfl⟩
  refine Cd.has hs ?_
  clear hs
  refine Cd.seq ?_
  refine Cd.seq ?_
  refine Cd.region ?_
  refine Ol.p mvi ?_
  refine Ol.p lsi ?_
  refine Ol.nil ?_
  refine Cd.cond rfl (fun h => ?_) (fun h => ?_)
  · have hlt : j < 12 := by
      have h : decide ((j : Int) < 12) = true := h
      have := of_decide_eq_true h
      omega
    refine Cd.skip ?_
    refine Cd.seq ?_
    refine Cd.block ?_
    refine Cd.region ?_
    refine Ol.p mvs ?_
    refine Ol.p mvi ?_
    refine Ol.s (cl (v := .int .i64 (mkN 1 j)) en_kit_mark (fun M w' hh => kit_mark_ct (k := 1) (by decide) (by omega))) ?_
    refine Ol.x (bsv [.int .i64 (mkN 1 j)] sl_L_int zr_int (by simp [Value.cells])) ?_
    rintro _ _ ⟨g19, rfl, rfl⟩
    refine Ol.x (apn (i := 1) (m := 1) sl_L_int zr_int rfl (by decide) rfl (Src.row (i := 0) rfl rfl) (by intro u hu; simp at hu; subst hu; rfl) (by unfold maxLen; omega) (by omega)) ?_
    rintro _ _ ⟨A2, c2, rfl, rfl⟩
    refine Ol.p ass ?_
    refine Ol.keep (.sub (.cons _ (List.Sublist.refl _))) ?_
    refine Ol.nil ?_
    refine Cd.region ?_
    refine Ol.p mvi ?_
    refine Ol.p addi ?_
    refine Ol.p asi ?_
    refine Ol.nil ?_
    refine ⟨12 - (j + 1), by omega, j + 1, A2, c2, rfl, by omega, ⟨rfl, rfl, rfl, trivial⟩, ?_⟩
    rw [mkL_succ, ← List.append_assoc, show ints (l ++ mkL j ++ [mkN 1 j]) = ints (l ++ mkL j) ++ [.int .i64 (mkN 1 j)] by simp [ints]]
    rfl
  have hje : j = 12 := by
    have h : decide ((j : Int) < 12) = false := h
    have := of_decide_eq_false h
    omega
  subst hje
  refine Cd.exit (id := 0) ?_
  refine Cd.capl (i := 0) (A := A') (n := l.length + 12) (c := c') rfl fun hcap => ?_
  refine Cd.seq ?_
  refine Cd.region ?_
  refine Ol.p mvs ?_
  refine Ol.p mvs ?_
  refine Ol.p (lens sl_L_int) ?_
  refine Ol.p (slh (A := A') (n := l.length + 12) (c := c') (h := l.length) sl_L_int (by omega)) ?_
  refine Ol.p ass ?_
  refine Ol.nil ?_
  exact Cd.ret ⟨_, ret1 rfl rfl, _, .all, A', c', rfl, rfl⟩
end
section
theorem kit_LentIns_ct {w : World} {i : RIns} (hl : Reads w w.heap.size 1 i.aA i.args.length (ints i.args)) (hlen : i.args.length < 2 ^ 40) : Ct Tryz.prog 157 #[i.val] w (fun v R => ∃ A c, v = (i.at_ A c).val ∧ R = [insLent (i.at_ A c)]) := by
  refine Ct.mk Tryz.func157 rfl rfl ?_
  refine Cd.seq ?_
  refine Cd.region ?_
  refine Ol.x bxg ?_
  rintro _ _ ⟨g1, rfl, rfl⟩
  refine Ol.x (alc zr_api_Ins) ?_
  rintro _ _ ⟨g2, rfl, rfl⟩
  refine Ol.nil ?_
  refine Cd.seq ?_
  refine Cd.region ?_
  refine Ol.p (fdl fd_api_Ins_6) ?_
  refine Ol.p (ld (v := .slice i.aA i.args.length i.aC) one_L_int (Rd.blk (i := 1) rfl rfl)) ?_
  refine Ol.x (sp_call en_kit_LentInts (fun M w' hh => kit_LentInts_ct (l := i.args) (hl.now hh) hlen)) ?_
  rintro _ _ ⟨_, rfl, A', c', rfl, rfl⟩
  refine Ol.p (fdl fd_api_Ins_6) ?_
  refine Ol.s (sto (v := .slice A' i.args.length c') (i := 2) (k := 0 + 6) (.inr sz_L_int) rfl rfl rfl (by simp [RIns.cells]) rfl) ?_
  refine Ol.nil ?_
  refine Cd.seq ?_
  refine Cd.region ?_
  refine Ol.p (ldw (cs := (i.at_ A' c').cells.toArray) ag_api_Ins (i := 2) rfl rfl) ?_
  refine Ol.s (stw (vs := (i.at_ A' c').cells.toArray) sz_api_Ins rfl (i.at_ A' c').one (i := 1) rfl rfl) ?_
  refine Ol.nil ?_
  exact Cd.ret ⟨_, retc rfl ag_api_Ins rfl (i := 1) rfl rfl, _, .sub (.cons_cons _ (.cons _ (.cons _ .slnil))), A', c', rfl, rfl⟩
end
section
def NewIlL (l : List RIns) : Value → List Res → Prop := fun v R => ∃ (l' : List RIns) (A : Option Addr) (c : Nat) (X : List Res), l'.map RIns.bare = l.map RIns.bare ∧ v = .slice A l'.length c ∧ X.Perm (l'.map insLent) ∧ R = lIns A c l' :: X
set_option maxHeartbeats 2000000 in
theorem kit_LentRow_ct {w : World} {A : Option Addr} {c : Nat} {l : List RIns} (hl : Reads w w.heap.size 8 A l.length (l.flatMap RIns.cells)) (ha : ∀ i ∈ l, Reads w w.heap.size 1 i.aA i.args.length (ints i.args)) (hlen : l.length < 2 ^ 36) (hal : ∀ i ∈ l, i.args.length < 2 ^ 40) : Ct Tryz.prog 133 #[.slice A l.length c] w (NewIlL l) := by
  refine Ct.mk Tryz.func133 rfl rfl ?_
  refine Cd.seq ?_
  refine Cd.region ?_
  refine Ol.p ass ?_
  refine Ol.nil ?_
  refine Cd.seq ?_
  refine Cd.region ?_
  refine Ol.p mvs ?_
  refine Ol.p (lens sl_L_api_Ins) ?_
  refine Ol.p addi ?_
  refine Ol.x (mks (n := 0) (c := l.length + 12) sl_L_api_Ins zr_api_Ins (hy := congrArg (Value.int .i64) (show (l.length : Int) + 12 = ((l.length + 12 : Nat) : Int) by omega))) ?_
  rintro _ _ ⟨gm, rfl, rfl⟩
  refine Ol.p ass ?_
  refine Ol.nil ?_
  rw [Nat.zero_mul, List.take_zero]
  refine Cd.mid (fun σ' L' => ∃ (l' : List RIns) (A' : Option Addr) (c' : Nat) (X : List Res), l'.map RIns.bare = l.map RIns.bare ∧ l'.length = l.length ∧ X.Perm (l'.map insLent) ∧ Has σ' [(0, .slice A l.length c), (3, .slice A' l'.length c')] ∧ row (.slice A' l'.length c') 25 8 l'.length (l'.flatMap RIns.cells) :: X = L') ?_ ?_
  · refine Cd.seq ?_
    refine Cd.region ?_
    refine Ol.p asi ?_
    refine Ol.nil ?_
    refine Cd.block ?_
    refine Cd.loop (fun m σ L => ∃ (k : Nat) (l' : List RIns) (A' : Option Addr) (c' : Nat) (X : List Res), m = l.length - k ∧ k ≤ l.length ∧ l'.map RIns.bare = (l.take k).map RIns.bare ∧ X.Perm (l'.map insLent) ∧ Has σ [(0, .slice A l.length c), (3, .slice A' l'.length c'), (4, .int .i64 k)] ∧ row (.slice A' l'.length c') 25 8 l'.length (l'.flatMap RIns.cells) :: X = L) (n := l.length) ⟨0, [], some ⟨gm, 0, none⟩, l.length + 12, [], rfl, Nat.zero_le _, rfl, .refl _, ⟨rfl, rfl, rfl, trivial⟩, rfl⟩ ?_
    rintro _ σ L ⟨k, l', A', c', X, rfl, hk, hbare, hX, hs, rfl⟩
    have hkl : l'.length = k := by
      have := congrArg List.length hbare
      simp at this; omega
    refine Cd.has hs ?_
    clear hs
    refine Cd.seq ?_
    refine Cd.seq ?_
    refine Cd.region ?_
    refine Ol.p mvi ?_
    refine Ol.p mvs ?_
    refine Ol.p (lens sl_L_api_Ins) ?_
    refine Ol.p lsi ?_
    refine Ol.nil ?_
    refine Cd.cond rfl (fun h => ?_) (fun h => ?_)
    · have hlt : k < l.length := by
        simp only [decide_eq_true_eq] at h; omega
      obtain ⟨i, hi⟩ : ∃ i, l[k]? = some i := ⟨_, List.getElem?_eq_getElem hlt⟩
      have him := List.mem_of_getElem? hi
      have hial := hal i him
      refine Cd.skip ?_
      refine Cd.seq ?_
      refine Cd.block ?_
      refine Cd.seq ?_
      refine Cd.region ?_
      refine Ol.p mvs ?_
      refine Ol.p mvi ?_
      refine Ol.p (ixn (ix := k) sl_L_api_Ins (Som.slc hl (by omega))) ?_
      refine Ol.p (lds (es := i.cells) ag_api_Ins hl i.len (fun j u hu => ins_cell hi hu)) ?_
      refine Ol.x (sp_call en_kit_LentIns (fun M w' hh => kit_LentIns_ct ((ha i him).now hh) hial)) ?_
      rintro _ _ ⟨_, rfl, Ai, ci, rfl, rfl⟩
      refine Ol.x (alc zr_api_Ins) ?_
      rintro _ _ ⟨g5, rfl, rfl⟩
      refine Ol.s (stw (vs := (i.at_ Ai ci).cells.toArray) sz_api_Ins rfl (i.at_ Ai ci).one (i := 0) rfl rfl) ?_
      refine Ol.nil ?_
      refine Cd.region ?_
      refine Ol.p mvs ?_
      refine Ol.p (ldw (cs := (i.at_ Ai ci).cells.toArray) ag_api_Ins (i := 0) rfl rfl) ?_
      refine Ol.x (bs1 (cs := (i.at_ Ai ci).cells) sl_L_api_Ins zr_api_Ins rfl rfl) ?_
      rintro _ _ ⟨g19, rfl, rfl⟩
      refine Ol.x (apn (i := 3) (m := 1) sl_L_api_Ins zr_api_Ins rfl (by decide) rfl (Src.row (i := 0) rfl rfl) (i.at_ Ai ci).one (by unfold maxLen; omega) (by omega)) ?_
      rintro _ _ ⟨A2, c2, rfl, rfl⟩
      refine Ol.p ass ?_
      refine Ol.keep (keep_count (L' := row (.slice A2 (l'.length + 1) c2) 25 8 (l'.length + 1) (l'.flatMap RIns.cells ++ (i.at_ Ai ci).cells) :: insLent (i.at_ Ai ci) :: X) [row (.slice (some ⟨g19, 0, none⟩) 1 1) 25 8 1 (i.at_ Ai ci).cells, blk g5 (.cells (i.at_ Ai ci).cells.toArray 25)] fun _ x => by simp only [List.set_cons_succ, List.set_cons_zero, List.count_append, List.count_cons, List.count_nil, List.cons_append, List.nil_append]; omega) ?_
      refine Ol.nil ?_
      refine Cd.region ?_
      refine Ol.p mvi ?_
      refine Ol.p addi ?_
      refine Ol.p asi ?_
      refine Ol.nil ?_
      have e1 : l'.length + 1 = (l' ++ [i.at_ Ai ci]).length := by simp
      have e2 : l'.flatMap RIns.cells ++ (i.at_ Ai ci).cells = (l' ++ [i.at_ Ai ci]).flatMap RIns.cells := by simp
      rw [e1, e2]
      refine ⟨l.length - (k + 1), by omega, k + 1, l' ++ [i.at_ Ai ci], A2, c2, insLent (i.at_ Ai ci) :: X, rfl, by omega, ?_, ?_, ⟨rfl, rfl, rfl, trivial⟩, rfl⟩
      · rw [take_snoc_ hi, List.map_append, List.map_append, hbare]; rfl
      · rw [List.map_append]
        exact ((hX.cons _).trans (List.perm_append_singleton _ _).symm)
    have hke : k = l.length := by
      simp only [decide_eq_false_iff_not] at h; omega
    rw [hke, List.take_of_length_le (Nat.le_refl _)] at hbare
    refine Cd.exit (id := 0) ?_
    exact ⟨l', A', c', X, hbare, by omega, hX, ⟨rfl, rfl, trivial⟩, rfl⟩
  rintro σ' _ ⟨l', A', c', X, hbare, hll, hX, hs', rfl⟩
  refine Cd.has hs' ?_
  clear hs'
  refine Cd.seq ?_
  refine Cd.seq ?_
  refine Cd.region ?_
  refine Ol.p asi ?_
  refine Ol.nil ?_
  refine Cd.block ?_
  refine Cd.loop (fun m σ L => ∃ (j : Nat) (A' : Option Addr) (c' : Nat), m = 12 - j ∧ j ≤ 12 ∧ Has σ [(0, .slice A l.length c), (3, .slice A' (l'.length + j) c'), (6, .int .i64 j)] ∧ row (.slice A' (l'.length + j) c') 25 8 (l'.length + j) ((l' ++ mkIL j).flatMap RIns.cells) :: X = L) (n := 12) ⟨0, A', c', rfl, Nat.zero_le _, ⟨rfl, rfl, rfl, trivial⟩, by rw [show mkIL 0 = [] from rfl, List.append_nil]; rfl⟩ ?_
  rintro _ σ L ⟨j, A', c', rfl, hj, hs, rfl⟩
  refine Cd.has hs ?_
  clear hs
  refine Cd.seq ?_
  refine Cd.seq ?_
  refine Cd.region ?_
  refine Ol.p mvi ?_
  refine Ol.p lsi ?_
  refine Ol.nil ?_
  refine Cd.cond rfl (fun h => ?_) (fun h => ?_)
  · have hlt : j < 12 := by
      have h : decide ((j : Int) < 12) = true := h
      have := of_decide_eq_true h
      omega
    refine Cd.skip ?_
    refine Cd.seq ?_
    refine Cd.block ?_
    refine Cd.region ?_
    refine Ol.p mvs ?_
    refine Ol.p mvi ?_
    refine Ol.s (cl (v := (MI 1 j).val) en_kit_markIns (fun M w' hh => kit_markIns_ct (k := 1) (by decide) (by omega))) ?_
    refine Ol.x (bs1 (v := (MI 1 j).val) (cs := (MI 1 j).cells) sl_L_api_Ins zr_api_Ins rfl rfl) ?_
    rintro _ _ ⟨g33, rfl, rfl⟩
    refine Ol.x (apn (i := 1) (m := 1) sl_L_api_Ins zr_api_Ins rfl (by decide) rfl (Src.row (i := 0) rfl rfl) (MI 1 j).one (by unfold maxLen; omega) (by omega)) ?_
    rintro _ _ ⟨A2, c2, rfl, rfl⟩
    refine Ol.p ass ?_
    refine Ol.keep (.sub (.cons _ (List.Sublist.refl _))) ?_
    refine Ol.nil ?_
    refine Cd.region ?_
    refine Ol.p mvi ?_
    refine Ol.p addi ?_
    refine Ol.p asi ?_
    refine Ol.nil ?_
    refine ⟨12 - (j + 1), by omega, j + 1, A2, c2, rfl, by omega, ⟨rfl, rfl, rfl, trivial⟩, ?_⟩
    rw [mkIL_succ, ← List.append_assoc, List.flatMap_append (xs := l' ++ mkIL j), List.flatMap_singleton]
    rfl
  have hje : j = 12 := by
    have h : decide ((j : Int) < 12) = false := h
    have := of_decide_eq_false h
    omega
  subst hje
  refine Cd.exit (id := 2) ?_
  refine Cd.capl (i := 0) (A := A') (n := l'.length + 12) (c := c') rfl fun hcap => ?_
  refine Cd.seq ?_
  refine Cd.region ?_
  refine Ol.p mvs ?_
  refine Ol.p mvs ?_
  refine Ol.p (lens sl_L_api_Ins) ?_
  refine Ol.p (slh (A := A') (n := l'.length + 12) (c := c') (h := l.length) sl_L_api_Ins (by omega)) ?_
  refine Ol.p ass ?_
  refine Ol.nil ?_
  exact Cd.ret ⟨.slice A' l.length c', ret1 rfl rfl, _, .all, l', A', c', X, hbare, (show Value.slice A' l.length c' = .slice A' l'.length c' by rw [hll]), hX, rfl⟩
end
section
theorem kit_LentBlock_ct {w : World} {b : RBlk} (hl : Reads w w.heap.size 8 b.iA b.ins.length (b.ins.flatMap RIns.cells)) (ha : ∀ i ∈ b.ins, Reads w w.heap.size 1 i.aA i.args.length (ints i.args)) (hlen : b.ins.length < 2 ^ 36) (hal : ∀ i ∈ b.ins, i.args.length < 2 ^ 40) : Ct Tryz.prog 92 #[b.val] w (fun v R => ∃ b' : RBlk, b'.bare = b.bare ∧ v = b'.val ∧ R.Perm (blkLent b')) := by
  refine Ct.mk Tryz.func92 rfl rfl ?_
  refine Cd.seq ?_
  refine Cd.region ?_
  refine Ol.x bxg ?_
  rintro _ _ ⟨g1, rfl, rfl⟩
  refine Ol.x (alc zr_api_Block) ?_
  rintro _ _ ⟨g2, rfl, rfl⟩
  refine Ol.nil ?_
  refine Cd.seq ?_
  refine Cd.region ?_
  refine Ol.p (fdl fd_api_Block_0) ?_
  refine Ol.p (ld (v := .slice b.iA b.ins.length b.iC) one_L_api_Ins (Rd.blk (i := 1) rfl rfl)) ?_
  refine Ol.x (sp_call en_kit_LentRow (fun M w' hh => kit_LentRow_ct (l := b.ins) (hl.now hh) (fun i hi => (ha i hi).now hh) hlen hal)) ?_
  rintro _ _ ⟨_, rfl, l', A', c', X, hb, rfl, hX, rfl⟩
  refine Ol.keep Keep.comm ?_
  refine Ol.p (fdl fd_api_Block_0) ?_
  refine Ol.s (sto (v := .slice A' l'.length c') (i := 1) (k := 0 + 0) (.inr sz_L_api_Ins) rfl rfl rfl (by simp [RBlk.cells]) rfl) ?_
  refine Ol.nil ?_
  refine Cd.seq ?_
  refine Cd.region ?_
  refine Ol.p (ldw (cs := (b.at_ A' c' l').cells.toArray) ag_api_Block (i := 1) rfl rfl) ?_
  refine Ol.s (stw (vs := (b.at_ A' c' l').cells.toArray) sz_api_Block rfl (b.at_ A' c' l').one (i := 0) rfl rfl) ?_
  refine Ol.nil ?_
  exact Cd.ret ⟨_, retc rfl ag_api_Block rfl (i := 0) rfl rfl, _, .sub (.cons _ (.cons _ (List.Sublist.refl _))), b.at_ A' c' l', RBlk.at_bare hb, rfl, hX.cons _⟩
end
section
def NewBlL (l : List RBlk) : Value → List Res → Prop := fun v R => ∃ (l' : List RBlk) (A : Option Addr) (c : Nat) (X : List Res), l'.map RBlk.bare = l.map RBlk.bare ∧ v = .slice A l'.length c ∧ X.Perm (l'.flatMap blkLent) ∧ R = lBlk A c l' :: X
set_option maxHeartbeats 2000000 in
theorem kit_LentBlocks_ct {w : World} {A : Option Addr} {c : Nat} {l : List RBlk} (hl : BlksIn w w.heap.size A l) (hal : ∀ b ∈ l, ∀ i ∈ b.ins, i.args.length < 2 ^ 40) : Ct Tryz.prog 53 #[.slice A l.length c] w (NewBlL l) := by
  have hlen := hl.len
  refine Ct.mk Tryz.func53 rfl rfl ?_
  refine Cd.seq ?_
  refine Cd.region ?_
  refine Ol.p ass ?_
  refine Ol.nil ?_
  refine Cd.seq ?_
  refine Cd.region ?_
  refine Ol.p mvs ?_
  refine Ol.p (lens sl_L_api_Block) ?_
  refine Ol.p addi ?_
  refine Ol.x (mks (n := 0) (c := l.length + 12) sl_L_api_Block zr_api_Block (hy := congrArg (Value.int .i64) (show (l.length : Int) + 12 = ((l.length + 12 : Nat) : Int) by omega))) ?_
  rintro _ _ ⟨gm, rfl, rfl⟩
  refine Ol.p ass ?_
  refine Ol.nil ?_
  rw [Nat.zero_mul, List.take_zero]
  refine Cd.mid (fun σ' L' => ∃ (l' : List RBlk) (A' : Option Addr) (c' : Nat) (X : List Res), l'.map RBlk.bare = l.map RBlk.bare ∧ l'.length = l.length ∧ X.Perm (l'.flatMap blkLent) ∧ Has σ' [(0, .slice A l.length c), (3, .slice A' l'.length c')] ∧ row (.slice A' l'.length c') 34 5 l'.length (l'.flatMap RBlk.cells) :: X = L') ?_ ?_
  · refine Cd.seq ?_
    refine Cd.region ?_
    refine Ol.p asi ?_
    refine Ol.nil ?_
    refine Cd.block ?_
    refine Cd.loop (fun m σ L => ∃ (k : Nat) (l' : List RBlk) (A' : Option Addr) (c' : Nat) (X : List Res), m = l.length - k ∧ k ≤ l.length ∧ l'.map RBlk.bare = (l.take k).map RBlk.bare ∧ X.Perm (l'.flatMap blkLent) ∧ Has σ [(0, .slice A l.length c), (3, .slice A' l'.length c'), (4, .int .i64 k)] ∧ row (.slice A' l'.length c') 34 5 l'.length (l'.flatMap RBlk.cells) :: X = L) (n := l.length) ⟨0, [], some ⟨gm, 0, none⟩, l.length + 12, [], rfl, Nat.zero_le _, rfl, .refl _, ⟨rfl, rfl, rfl, trivial⟩, rfl⟩ ?_
    rintro _ σ L ⟨k, l', A', c', X, rfl, hk, hbare, hX, hs, rfl⟩
    have hkl : l'.length = k := by
      have := congrArg List.length hbare
      simp at this; omega
    refine Cd.has hs ?_
    clear hs
    refine Cd.seq ?_
    refine Cd.seq ?_
    refine Cd.region ?_
    refine Ol.p mvi ?_
    refine Ol.p mvs ?_
    refine Ol.p (lens sl_L_api_Block) ?_
    refine Ol.p lsi ?_
    refine Ol.nil ?_
    refine Cd.cond rfl (fun h => ?_) (fun h => ?_)
    · have hlt : k < l.length := by
        simp only [decide_eq_true_eq] at h; omega
      obtain ⟨b, hb⟩ : ∃ b, l[k]? = some b := ⟨_, List.getElem?_eq_getElem hlt⟩
      have hbm := List.mem_of_getElem? hb
      refine Cd.skip ?_
      refine Cd.seq ?_
      refine Cd.block ?_
      refine Cd.seq ?_
      refine Cd.region ?_
      refine Ol.p mvs ?_
      refine Ol.p mvi ?_
      refine Ol.p (ixn (ix := k) sl_L_api_Block (Som.slc hl.row (by omega))) ?_
      refine Ol.p (lds (es := b.cells) ag_api_Block hl.row b.len (fun j u hu => blk_cell hb hu)) ?_
      refine Ol.x (sp_call en_kit_LentBlock (fun M w' hh => kit_LentBlock_ct (b := b) ((hl.ins b hbm).now hh) (fun i hi => (hl.args b hbm i hi).now hh) (hl.ilen b hbm) (hal b hbm))) ?_
      rintro _ _ ⟨Y, rfl, b', hb', rfl, hY⟩
      refine Ol.keep (L' := [row (.slice A' l'.length c') 34 5 l'.length (l'.flatMap RBlk.cells)] ++ (X ++ blkLent b')) ⟨[], perm_count fun _ x => by
        have := hY.count_eq x
        simp only [List.count_append, List.count_cons, List.cons_append, List.nil_append, List.append_nil]; omega⟩ ?_
      refine Ol.x (alc zr_api_Block) ?_
      rintro _ _ ⟨g5, rfl, rfl⟩
      refine Ol.s (stw (vs := b'.cells.toArray) sz_api_Block rfl b'.one (i := 0) rfl rfl) ?_
      refine Ol.nil ?_
      refine Cd.region ?_
      refine Ol.p mvs ?_
      refine Ol.p (ldw (cs := b'.cells.toArray) ag_api_Block (i := 0) rfl rfl) ?_
      refine Ol.x (bs1 (cs := b'.cells) sl_L_api_Block zr_api_Block rfl rfl) ?_
      rintro _ _ ⟨g19, rfl, rfl⟩
      refine Ol.x (apn (i := 2) (m := 1) sl_L_api_Block zr_api_Block rfl (by decide) rfl (Src.row (i := 0) rfl rfl) b'.one (by unfold maxLen; omega) (by omega)) ?_
      rintro _ _ ⟨A2, c2, rfl, rfl⟩
      refine Ol.p ass ?_
      refine Ol.keep (.sub (.cons _ (.cons _ (List.Sublist.refl _)))) ?_
      refine Ol.nil ?_
      refine Cd.region ?_
      refine Ol.p mvi ?_
      refine Ol.p addi ?_
      refine Ol.p asi ?_
      refine Ol.nil ?_
      have e1 : l'.length + 1 = (l' ++ [b']).length := by simp
      have e2 : l'.flatMap RBlk.cells ++ b'.cells = (l' ++ [b']).flatMap RBlk.cells := by simp
      rw [e1, e2]
      refine ⟨l.length - (k + 1), by omega, k + 1, l' ++ [b'], A2, c2, X ++ blkLent b', rfl, by omega, ?_, ?_, ⟨rfl, rfl, rfl, trivial⟩, rfl⟩
      · rw [take_snoc_ hb, List.map_append, List.map_append, hbare]; simp [hb']
      · rw [List.flatMap_append]
        refine List.Perm.append hX ?_
        simp
    have hke : k = l.length := by
      simp only [decide_eq_false_iff_not] at h; omega
    rw [hke, List.take_of_length_le (Nat.le_refl _)] at hbare
    refine Cd.exit (id := 0) ?_
    exact ⟨l', A', c', X, hbare, by omega, hX, ⟨rfl, rfl, trivial⟩, rfl⟩
  rintro σ' _ ⟨l', A', c', X, hbare, hll, hX, hs', rfl⟩
  refine Cd.has hs' ?_
  clear hs'
  refine Cd.seq ?_
  refine Cd.seq ?_
  refine Cd.region ?_
  refine Ol.p asi ?_
  refine Ol.nil ?_
  refine Cd.block ?_
  refine Cd.loop (fun m σ L => ∃ (j : Nat) (A' : Option Addr) (c' : Nat), m = 12 - j ∧ j ≤ 12 ∧ Has σ [(0, .slice A l.length c), (3, .slice A' (l'.length + j) c'), (6, .int .i64 j)] ∧ row (.slice A' (l'.length + j) c') 34 5 (l'.length + j) ((l' ++ mkBL j).flatMap RBlk.cells) :: X = L) (n := 12) ⟨0, A', c', rfl, Nat.zero_le _, ⟨rfl, rfl, rfl, trivial⟩, by rw [show mkBL 0 = [] from rfl, List.append_nil]; rfl⟩ ?_
  rintro _ σ L ⟨j, A', c', rfl, hj, hs, rfl⟩
  refine Cd.has hs ?_
  clear hs
  refine Cd.seq ?_
  refine Cd.seq ?_
  refine Cd.region ?_
  refine Ol.p mvi ?_
  refine Ol.p lsi ?_
  refine Ol.nil ?_
  refine Cd.cond rfl (fun h => ?_) (fun h => ?_)
  · have hlt : j < 12 := by
      have h : decide ((j : Int) < 12) = true := h
      have := of_decide_eq_true h
      omega
    refine Cd.skip ?_
    refine Cd.seq ?_
    refine Cd.block ?_
    refine Cd.region ?_
    refine Ol.p mvs ?_
    refine Ol.p mvi ?_
    refine Ol.s (cl (v := (MB 1 j).val) en_kit_markBlock (fun M w' hh => kit_markBlock_ct (k := 1) (by decide) (by omega))) ?_
    refine Ol.x (bs1 (v := (MB 1 j).val) (cs := (MB 1 j).cells) sl_L_api_Block zr_api_Block rfl rfl) ?_
    rintro _ _ ⟨g33, rfl, rfl⟩
    refine Ol.x (apn (i := 1) (m := 1) sl_L_api_Block zr_api_Block rfl (by decide) rfl (Src.row (i := 0) rfl rfl) (MB 1 j).one (by unfold maxLen; omega) (by omega)) ?_
    rintro _ _ ⟨A2, c2, rfl, rfl⟩
    refine Ol.p ass ?_
    refine Ol.keep (.sub (.cons _ (List.Sublist.refl _))) ?_
    refine Ol.nil ?_
    refine Cd.region ?_
    refine Ol.p mvi ?_
    refine Ol.p addi ?_
    refine Ol.p asi ?_
    refine Ol.nil ?_
    refine ⟨12 - (j + 1), by omega, j + 1, A2, c2, rfl, by omega, ⟨rfl, rfl, rfl, trivial⟩, ?_⟩
    rw [mkBL_succ, ← List.append_assoc, List.flatMap_append (xs := l' ++ mkBL j), List.flatMap_singleton]
    rfl
  have hje : j = 12 := by
    have h : decide ((j : Int) < 12) = false := h
    have := of_decide_eq_false h
    omega
  subst hje
  refine Cd.exit (id := 2) ?_
  refine Cd.capl (i := 0) (A := A') (n := l'.length + 12) (c := c') rfl fun hcap => ?_
  refine Cd.seq ?_
  refine Cd.region ?_
  refine Ol.p mvs ?_
  refine Ol.p mvs ?_
  refine Ol.p (lens sl_L_api_Block) ?_
  refine Ol.p (slh (A := A') (n := l'.length + 12) (c := c') (h := l.length) sl_L_api_Block (by omega)) ?_
  refine Ol.p ass ?_
  refine Ol.nil ?_
  exact Cd.ret ⟨.slice A' l.length c', ret1 rfl rfl, _, .all, l', A', c', X, hbare, (show Value.slice A' l.length c' = .slice A' l'.length c' by rw [hll]), hX, rfl⟩
end
section
theorem kit_LentFunc_ct {w : World} {f : RFun} (hf : FunAt w w.heap.size f) (hp : f.params.length < 2 ^ 40) (hl : BlksIn w w.heap.size f.bA f.blocks) (hal : ∀ b ∈ f.blocks, ∀ i ∈ b.ins, i.args.length < 2 ^ 40) : Ct Tryz.prog 13 #[f.val] w (fun v R => ∃ g : RFun, g.bare = f.bare ∧ v = g.val ∧ R.Perm (funLent g)) := by
  refine Ct.mk Tryz.func13 rfl rfl ?_
  refine Cd.seq ?_
  refine Cd.region ?_
  refine Ol.x bxg ?_
  rintro _ _ ⟨g1, rfl, rfl⟩
  refine Ol.x (alc zr_api_Func) ?_
  rintro _ _ ⟨g2, rfl, rfl⟩
  refine Ol.nil ?_
  refine Cd.seq ?_
  refine Cd.region ?_
  refine Ol.p (fdl fd_api_Func_0) ?_
  refine Ol.p (ld (v := .slice f.pA f.params.length f.pC) one_L_int (Rd.blk (i := 1) rfl rfl)) ?_
  refine Ol.x (sp_call en_kit_LentInts (fun M w' hh => kit_LentInts_ct (l := f.params) (hf.params.now hh) hp)) ?_
  rintro _ _ ⟨_, rfl, A', c', rfl, rfl⟩
  refine Ol.p (fdl fd_api_Func_0) ?_
  refine Ol.s (sto (v := .slice A' f.params.length c') (i := 2) (k := 0 + 0) (.inr sz_L_int) rfl rfl rfl (by simp [RFun.cells]) rfl) ?_
  refine Ol.nil ?_
  refine Cd.seq ?_
  refine Cd.region ?_
  refine Ol.p (fdl fd_api_Func_1) ?_
  refine Ol.p (ld (v := .slice f.bA f.blocks.length f.bC) one_L_api_Block (Rd.blk (i := 2) rfl rfl)) ?_
  refine Ol.x (sp_call en_kit_LentBlocks (fun M w' hh => kit_LentBlocks_ct (l := f.blocks) (hl.now hh) hal)) ?_
  rintro _ _ ⟨_, rfl, l', A2, c2, X, hb, rfl, hX, rfl⟩
  refine Ol.keep Keep.comm ?_
  obtain ⟨g, hg⟩ : ∃ g : RFun, g = ⟨A', c', f.params, A2, c2, l'⟩ := ⟨_, rfl⟩
  refine Ol.p (fdl fd_api_Func_1) ?_
  refine Ol.s (sto (v := .slice A2 l'.length c2) (i := 2) (k := 0 + 1) (.inr sz_L_api_Block) rfl rfl rfl (by simp [RFun.cells]) rfl) ?_
  refine Ol.nil ?_
  refine Cd.seq ?_
  refine Cd.region ?_
  refine Ol.p (ldw (cs := #[.slice A' f.params.length c', .slice A2 l'.length c2]) ag_api_Func (i := 2) rfl rfl) ?_
  refine Ol.s (stw (vs := #[.slice A' f.params.length c', .slice A2 l'.length c2]) sz_api_Func rfl (by intro u hu; simp at hu; rcases hu with rfl | rfl <;> rfl) (i := 1) rfl rfl) ?_
  refine Ol.nil ?_
  refine Cd.ret ⟨_, retc rfl ag_api_Func rfl (i := 1) rfl rfl, _, .sub (.cons_cons _ (.cons _ (.cons _ (List.Sublist.refl _)))), g, ?_, by rw [hg]; rfl, ?_⟩
  · rw [hg]
    unfold RFun.bare
    simp only [hb]
  · rw [hg]
    exact (hX.cons _).cons _
end
section
set_option maxHeartbeats 2000000 in
theorem kit_KeptInts_ct {w : World} {A B : Option Addr} {c d : Nat} {l : List Int} (hro : Reads w w.heap.size 1 A (l.length + 12) (ints (l ++ mkL 12))) (hc : l.length + 12 ≤ c) (hl : Reads w w.heap.size 1 B l.length (ints l)) (hlen : l.length < 2 ^ 40) : Ct Tryz.prog 21 #[.slice A l.length c, .slice B l.length d] w (Is (.bool true)) := by
  obtain ⟨l', hl'⟩ : ∃ l', l' = l := ⟨_, rfl⟩
  have hll : l'.length = l.length := by rw [hl']
  rw [show (Value.slice A l.length c) = .slice A l'.length c by rw [hll]]
  refine Ct.mk Tryz.func21 rfl rfl ?_
  refine Cd.seq ?_
  refine Cd.region ?_
  refine Ol.p asb ?_
  refine Ol.nil ?_
  refine Cd.seq ?_
  refine Cd.seq ?_
  refine Cd.region ?_
  refine Ol.p mvs ?_
  refine Ol.p (lens sl_L_int) ?_
  refine Ol.p mvs ?_
  refine Ol.p (lens sl_L_int) ?_
  refine Ol.p nei ?_
  refine Ol.nil ?_
  refine Cd.cond rfl (fun h => ?_) (fun _ => ?_)
  · exfalso
    have h : (!decide ((l'.length : Int) = (l.length : Int))) = true := h
    rw [decide_eq_true (by omega)] at h
    cases h
  refine Cd.skip ?_
  refine Cd.seq ?_
  refine Cd.region ?_
  refine Ol.p mvs ?_
  refine Ol.p mvs ?_
  refine Ol.p (lens sl_L_int) ?_
  refine Ol.p addi ?_
  refine Ol.p (slh (A := A) (c := c) (h := l.length + 12) sl_L_int (by omega) (hy := congrArg (Value.int .i64) (show (l.length : Int) + 12 = ((l.length + 12 : Nat) : Int) by omega))) ?_
  refine Ol.p ass ?_
  refine Ol.nil ?_
  refine Cd.seq ?_
  refine Cd.seq ?_
  refine Cd.region ?_
  refine Ol.p asi ?_
  refine Ol.nil ?_
  refine Cd.block ?_
  refine Cd.loop (fun m σ L => ∃ k, m = l.length + 12 - k ∧ k ≤ l.length + 12 ∧ Has σ [(1, .slice B l.length d), (5, .slice A (l.length + 12) c), (6, .int .i64 k)] ∧ [] = L) (n := l.length + 12) ⟨0, rfl, Nat.zero_le _, ⟨rfl, rfl, rfl, trivial⟩, rfl⟩ ?_
  rintro _ σ L ⟨k, rfl, hk, hs, rfl⟩
  refine Cd.has hs ?_
  clear hs
  refine Cd.seq ?_
  refine Cd.seq ?_
  refine Cd.region ?_
  refine Ol.p mvi ?_
  refine Ol.p mvs ?_
  refine Ol.p (lens sl_L_int) ?_
  refine Ol.p lsi ?_
  refine Ol.nil ?_
  refine Cd.cond rfl (fun h => ?_) (fun h => ?_)
  · have hlt : k < l.length + 12 := by
      have h : decide ((k : Int) < ((l.length + 12 : Nat) : Int)) = true := h
      have := of_decide_eq_true h
      omega
    refine Cd.skip ?_
    refine Cd.seq ?_
    refine Cd.block ?_
    refine Cd.mid (fun σ' L' => Has σ' [(1, .slice B l.length d), (5, .slice A (l.length + 12) c), (6, .int .i64 k), (57, .bool false)] ∧ [] = L') ?_ ?_
    · cases q4 : decide ((k : Int) < (l.length : Int)) with
      | true =>
        have hkl : k < l.length := by have := of_decide_eq_true q4; omega
        have q20 : decide ((l.length : Int) ≤ (k : Int)) = false := decide_eq_false (by omega)
        obtain ⟨x, hx⟩ : ∃ x, l'[k]? = some x := ⟨_, List.getElem?_eq_getElem (by omega)⟩
        obtain ⟨y, hy⟩ : ∃ y, l[k]? = some y := ⟨_, List.getElem?_eq_getElem hkl⟩
        have hxm := List.mem_of_getElem? hx
        have hym := List.mem_of_getElem? hy
        rw [hl'] at hx
        have q16 : (!decide (x = x)) = false := by simp
        refine Cd.draw mixed 35 (fun _ => none) (fun _ => []) (by kernel_rfl) (fun _ _ h => by cases h) (fun u hu => ?_)
        refine Wk.p mvi ?_
        refine Wk.p mvs ?_
        refine Wk.p (lens sl_L_int) ?_
        refine Wk.p lsi ?_
        refine Wk.p mvb ?_
        refine Wk.gp q4 mvs ?_
        refine Wk.gp q4 mvi ?_
        refine Wk.gp q4 (ixn (ix := k) sl_L_int (Som.slc hro (by omega))) ?_
        refine Wk.gp q4 (ld (v := .int .i64 x) one_int (Rd.slc hro (show (ints (l ++ mkL 12))[k * 1]? = some (.int .i64 x) from by rw [Nat.mul_one]; unfold ints; rw [List.getElem?_map, mk_old hx]; rfl))) ?_
        refine Wk.gp q4 mvs ?_
        refine Wk.gp q4 mvi ?_
        refine Wk.gp q4 (ixn (ix := k) sl_L_int (Som.slc hl (by omega))) ?_
        refine Wk.gp q4 (ld (v := .int .i64 x) one_int (Rd.slc hl (show (ints l)[k * 1]? = some (.int .i64 x) from by rw [Nat.mul_one]; unfold ints; rw [List.getElem?_map, hx]; rfl))) ?_
        refine Wk.gp q4 eqi ?_
        refine Wk.gp q4 noti ?_
        refine Wk.p (pkTb q4) ?_
        refine Wk.p mvb ?_
        refine Wk.gp q16 mvi ?_
        refine Wk.gp q16 mvs ?_
        refine Wk.gp q16 (lens sl_L_int) ?_
        refine Wk.gp q16 gei ?_
        refine Wk.gp q16 mvb ?_
        refine Wk.gn q20 ?_
        refine Wk.gn q20 ?_
        refine Wk.gn q20 ?_
        refine Wk.gn q20 ?_
        refine Wk.gn q20 ?_
        refine Wk.gn q20 ?_
        refine Wk.gn q20 ?_
        refine Wk.gn q20 ?_
        refine Wk.gn q20 ?_
        refine Wk.gn q20 ?_
        refine Wk.gn q20 ?_
        refine Wk.gp q16 (pkFb q20) ?_
        refine Wk.p (pkFb q16) ?_
        refine Wk.nil ?_
        refine Ol.nil ?_
        exact ⟨⟨rfl, rfl, rfl, rfl, trivial⟩, rfl⟩
      | false =>
        have hkl : l.length ≤ k := by have := of_decide_eq_false q4; omega
        have q20 : decide ((l.length : Int) ≤ (k : Int)) = true := decide_eq_true (by omega)
        obtain ⟨j, hj⟩ : ∃ j, k = l.length + j := ⟨k - l.length, by omega⟩
        have hjv : ((k : Int) - (l.length : Int)) = (j : Int) := by omega
        have hz := mk_at (l := l') (F := mkN 1) (j := j) (by omega)
        rw [hll, ← hj, hl'] at hz
        have hmk : ∀ w', Ct Tryz.prog 54 #[.int .i64 1, .int .i64 ((k : Int) - (l.length : Int))] w' (Is (.int .i64 (mkN 1 j))) := fun w' => by
          rw [hjv]
          exact kit_mark_ct (k := 1) (by decide) (by omega)
        have q31 : (!decide (mkN 1 j = mkN 1 j)) = false := by simp
        refine Cd.draw mixed 35 (exIs (fun opNo => match opNo with | 30 => some ((.int .i64 (mkN 1 j))) | _ => none)) (fun _ => []) (by kernel_rfl) exIs_in (fun u hu => ?_)
        refine Wk.p mvi ?_
        refine Wk.p mvs ?_
        refine Wk.p (lens sl_L_int) ?_
        refine Wk.p lsi ?_
        refine Wk.p mvb ?_
        refine Wk.gn q4 ?_
        refine Wk.gn q4 ?_
        refine Wk.gn q4 ?_
        refine Wk.gn q4 ?_
        refine Wk.gn q4 ?_
        refine Wk.gn q4 ?_
        refine Wk.gn q4 ?_
        refine Wk.gn q4 ?_
        refine Wk.gn q4 ?_
        refine Wk.gn q4 ?_
        refine Wk.p (pkFb q4) ?_
        refine Wk.p mvb ?_
        refine Wk.gp rfl mvi ?_
        refine Wk.gp rfl mvs ?_
        refine Wk.gp rfl (lens sl_L_int) ?_
        refine Wk.gp rfl gei ?_
        refine Wk.gp rfl mvb ?_
        refine Wk.gp q20 mvs ?_
        refine Wk.gp q20 mvi ?_
        refine Wk.gp q20 (ixn (ix := k) sl_L_int (Som.slc hro (by omega))) ?_
        refine Wk.gp q20 (ld (v := .int .i64 (mkN 1 j)) one_int (Rd.slc hro (show (ints (l ++ mkL 12))[k * 1]? = some (.int .i64 (mkN 1 j)) from by rw [Nat.mul_one]; unfold ints; rw [List.getElem?_map, show (l ++ mkL 12)[k]? = some (mkN 1 j) from hz]; rfl))) ?_
        refine Wk.gp q20 mvi ?_
        refine Wk.gp q20 mvs ?_
        refine Wk.gp q20 (lens sl_L_int) ?_
        refine Wk.gp q20 subi ?_
        refine Wk.gdk hu q20 (sp_call (vs := [.int .i64 1, .int .i64 ((k : Int) - (l.length : Int))]) en_kit_mark (fun M w' hh => hmk w')) ?_
        refine Wk.gp q20 eqi ?_
        refine Wk.gp q20 noti ?_
        refine Wk.gp rfl (pkTb q20) ?_
        refine Wk.p (pkFb rfl) ?_
        refine Wk.nil ?_
        rw [needs_exIs hu rfl]
        refine Ol.nil ?_
        exact ⟨⟨rfl, rfl, rfl, congrArg Value.bool q31, trivial⟩, rfl⟩
    rintro σ' _ ⟨hs', rfl⟩
    refine Cd.has hs' ?_
    clear hs'
    refine Cd.cond rfl (fun h => by cases h) (fun _ => ?_)
    refine Cd.skip ?_
    refine Cd.region ?_
    refine Ol.p mvi ?_
    refine Ol.p addi ?_
    refine Ol.p asi ?_
    refine Ol.nil ?_
    exact ⟨l.length + 12 - (k + 1), by omega, k + 1, rfl, by omega, ⟨rfl, rfl, rfl, trivial⟩, rfl⟩
  refine Cd.exit (id := 0) ?_
  refine Cd.seq ?_
  refine Cd.region ?_
  refine Ol.p asb ?_
  refine Ol.nil ?_
  exact Cd.ret ⟨.bool true, ret1 rfl rfl, [], Keep.nil, rfl, rfl⟩
end
section
theorem kit_KeptIns_ct {w : World} {a b : RIns} (hb : a.bare = b.bare) (ha : Reads w w.heap.size 1 a.aA (a.args.length + 12) (ints (a.args ++ mkL 12))) (hc : a.args.length + 12 ≤ a.aC) (hr : Reads w w.heap.size 1 b.aA b.args.length (ints b.args)) (hlen : a.args.length < 2 ^ 40) : Ct Tryz.prog 158 #[a.val, b.val] w (Is (.bool true)) := by
  have hargs : b.args = a.args := (congrArg RIns.args hb : a.bare.args = b.bare.args).symm
  rw [hargs] at hr
  have hS : decide (a.bare = b.bare) = true := decide_eq_true hb
  have hv : b.val = .agg #[.int .i64 b.op, .int .i64 b.dst, .int .i64 b.a, .int .i64 b.b, .int .i64 b.imm, .int .i64 b.callee, .slice b.aA a.args.length b.aC, .int .i64 b.many] := by
    rw [← hargs]; rfl
  refine Ct.mk Tryz.func158 rfl rfl ?_
  refine Cd.seq ?_
  refine Cd.region ?_
  refine Ol.x bxg ?_
  rintro _ _ ⟨g2, rfl, rfl⟩
  refine Ol.x bxg ?_
  rintro _ _ ⟨g3, rfl, rfl⟩
  refine Ol.p asb ?_
  refine Ol.nil ?_
  refine Cd.seq ?_
  refine Cd.region ?_
  refine Ol.p (ldw (cs := a.cells.toArray) ag_api_Ins (i := 1) rfl rfl) ?_
  refine Ol.p (ldw (cs := b.cells.toArray) ag_api_Ins (i := 0) rfl rfl) ?_
  refine Ol.s (cl (v := .bool true) en_kit_SameIns (fun M w' hh => hS ▸ kit_SameIns_ct ((ha.lentI).now hh) (hargs ▸ hr.now hh) (by omega) (by rw [hargs]; omega))) ?_
  refine Ol.p mvb ?_
  refine Ol.gp rfl (fdl fd_api_Ins_6) ?_
  refine Ol.gp rfl (ld (v := .slice a.aA a.args.length a.aC) one_L_int (Rd.blk (i := 1) rfl rfl)) ?_
  refine Ol.gp rfl (fdl fd_api_Ins_6) ?_
  refine Ol.gp rfl (ld (v := .slice b.aA a.args.length b.aC) one_L_int (Rd.blk (i := 0) rfl (show b.cells.toArray[0 + 6]? = some (.slice b.aA a.args.length b.aC) from by rw [← hargs]; rfl))) ?_
  refine Ol.gs rfl (cl (v := .bool true) en_kit_KeptInts (fun M w' hh => kit_KeptInts_ct (l := a.args) (ha.now hh) hc (hr.now hh) hlen)) ?_
  refine Ol.p (pkTb rfl) ?_
  refine Ol.p asb ?_
  refine Ol.nil ?_
  exact Cd.ret ⟨.bool true, ret1 rfl rfl, [], Keep.nil, rfl, rfl⟩
end
section
set_option maxHeartbeats 2000000 in
theorem kit_KeptRow_ct {w : World} {A B : Option Addr} {c d : Nat} {l' l : List RIns} (hb : l'.map RIns.bare = l.map RIns.bare) (hro : Reads w w.heap.size 8 A (l'.length + 12) ((l' ++ mkIL 12).flatMap RIns.cells)) (hc : l'.length + 12 ≤ c) (hra : ∀ i ∈ l', Reads w w.heap.size 1 i.aA (i.args.length + 12) (ints (i.args ++ mkL 12))) (hac : ∀ i ∈ l', i.args.length + 12 ≤ i.aC) (hl : Reads w w.heap.size 8 B l.length (l.flatMap RIns.cells)) (hla : ∀ i ∈ l, Reads w w.heap.size 1 i.aA i.args.length (ints i.args)) (hlen : l.length < 2 ^ 36) (hal : ∀ i ∈ l, i.args.length < 2 ^ 40) : Ct Tryz.prog 134 #[.slice A l'.length c, .slice B l.length d] w (Is (.bool true)) := by
  have hll : l'.length = l.length := by
    have := congrArg List.length hb
    simpa using this
  rw [hll] at hro hc
  refine Ct.mk Tryz.func134 rfl rfl ?_
  refine Cd.seq ?_
  refine Cd.region ?_
  refine Ol.p asb ?_
  refine Ol.nil ?_
  refine Cd.seq ?_
  refine Cd.seq ?_
  refine Cd.region ?_
  refine Ol.p mvs ?_
  refine Ol.p (lens sl_L_api_Ins) ?_
  refine Ol.p mvs ?_
  refine Ol.p (lens sl_L_api_Ins) ?_
  refine Ol.p nei ?_
  refine Ol.nil ?_
  refine Cd.cond rfl (fun h => ?_) (fun _ => ?_)
  · exfalso
    have h : (!decide ((l'.length : Int) = (l.length : Int))) = true := h
    rw [decide_eq_true (by omega)] at h
    cases h
  refine Cd.skip ?_
  refine Cd.seq ?_
  refine Cd.region ?_
  refine Ol.p mvs ?_
  refine Ol.p mvs ?_
  refine Ol.p (lens sl_L_api_Ins) ?_
  refine Ol.p addi ?_
  refine Ol.p (slh (A := A) (c := c) (h := l.length + 12) sl_L_api_Ins (by omega) (hy := congrArg (Value.int .i64) (show (l.length : Int) + 12 = ((l.length + 12 : Nat) : Int) by omega))) ?_
  refine Ol.p ass ?_
  refine Ol.nil ?_
  refine Cd.seq ?_
  refine Cd.seq ?_
  refine Cd.region ?_
  refine Ol.p asi ?_
  refine Ol.nil ?_
  refine Cd.block ?_
  refine Cd.loop (fun m σ L => ∃ k, m = l.length + 12 - k ∧ k ≤ l.length + 12 ∧ Has σ [(1, .slice B l.length d), (5, .slice A (l.length + 12) c), (6, .int .i64 k)] ∧ [] = L) (n := l.length + 12) ⟨0, rfl, Nat.zero_le _, ⟨rfl, rfl, rfl, trivial⟩, rfl⟩ ?_
  rintro _ σ L ⟨k, rfl, hk, hs, rfl⟩
  refine Cd.has hs ?_
  clear hs
  refine Cd.seq ?_
  refine Cd.seq ?_
  refine Cd.region ?_
  refine Ol.p mvi ?_
  refine Ol.p mvs ?_
  refine Ol.p (lens sl_L_api_Ins) ?_
  refine Ol.p lsi ?_
  refine Ol.nil ?_
  refine Cd.cond rfl (fun h => ?_) (fun h => ?_)
  · have hlt : k < l.length + 12 := by
      have h : decide ((k : Int) < ((l.length + 12 : Nat) : Int)) = true := h
      have := of_decide_eq_true h
      omega
    refine Cd.skip ?_
    refine Cd.seq ?_
    refine Cd.block ?_
    refine Cd.mid (fun σ' L' => Has σ' [(1, .slice B l.length d), (5, .slice A (l.length + 12) c), (6, .int .i64 k), (57, .bool false)] ∧ [] = L') ?_ ?_
    · cases q4 : decide ((k : Int) < (l.length : Int)) with
      | true =>
        have hkl : k < l.length := by have := of_decide_eq_true q4; omega
        have q20 : decide ((l.length : Int) ≤ (k : Int)) = false := decide_eq_false (by omega)
        obtain ⟨x, hx⟩ : ∃ x, l'[k]? = some x := ⟨_, List.getElem?_eq_getElem (by omega)⟩
        obtain ⟨y, hy⟩ : ∃ y, l[k]? = some y := ⟨_, List.getElem?_eq_getElem hkl⟩
        have hxm := List.mem_of_getElem? hx
        have hym := List.mem_of_getElem? hy
        have hxy : x.bare = y.bare := by
          have := congrArg (fun z : List RIns => z[k]?) hb
          simp only [List.getElem?_map, hx, hy, Option.map_some] at this
          exact Option.some.inj this
        have hxl : x.args.length < 2 ^ 40 := by
          have e : x.args = y.args := (congrArg RIns.args hxy : x.bare.args = y.bare.args)
          rw [e]; exact hal y hym
        refine Cd.draw mixed 35 (exIs (fun opNo => match opNo with | 13 => some (.bool true) | _ => none)) (fun _ => []) (by kernel_rfl) exIs_in (fun u hu => ?_)
        refine Wk.p mvi ?_
        refine Wk.p mvs ?_
        refine Wk.p (lens sl_L_api_Ins) ?_
        refine Wk.p lsi ?_
        refine Wk.p mvb ?_
        refine Wk.gp q4 mvs ?_
        refine Wk.gp q4 mvi ?_
        refine Wk.gp q4 (ixn (ix := k) sl_L_api_Ins (Som.slc hro (by omega))) ?_
        refine Wk.gp q4 (lds (es := x.cells) ag_api_Ins hro x.len (fun q u hu => ins_cell (mk_old hx) hu)) ?_
        refine Wk.gp q4 mvs ?_
        refine Wk.gp q4 mvi ?_
        refine Wk.gp q4 (ixn (ix := k) sl_L_api_Ins (Som.slc hl (by omega))) ?_
        refine Wk.gp q4 (lds (es := y.cells) ag_api_Ins hl y.len (fun q u hu => ins_cell hy hu)) ?_
        refine Wk.gdk hu q4 (sp_call (vs := [x.val, y.val]) en_kit_KeptIns (fun M w' hh => kit_KeptIns_ct hxy ((hra x hxm).now hh) (hac x hxm) ((hla y hym).now hh) hxl)) ?_
        refine Wk.gp q4 noti ?_
        refine Wk.p (pkTb q4) ?_
        refine Wk.p mvb ?_
        refine Wk.gp rfl mvi ?_
        refine Wk.gp rfl mvs ?_
        refine Wk.gp rfl (lens sl_L_api_Ins) ?_
        refine Wk.gp rfl gei ?_
        refine Wk.gp rfl mvb ?_
        refine Wk.gn q20 ?_
        refine Wk.gn q20 ?_
        refine Wk.gn q20 ?_
        refine Wk.gn q20 ?_
        refine Wk.gn q20 ?_
        refine Wk.gn q20 ?_
        refine Wk.gn q20 ?_
        refine Wk.gn q20 ?_
        refine Wk.gn q20 ?_
        refine Wk.gn q20 ?_
        refine Wk.gn q20 ?_
        refine Wk.gp rfl (pkFb q20) ?_
        refine Wk.p (pkFb rfl) ?_
        refine Wk.nil ?_
        rw [needs_exIs hu rfl]
        refine Ol.nil ?_
        exact ⟨⟨rfl, rfl, rfl, rfl, trivial⟩, rfl⟩
      | false =>
        have hkl : l.length ≤ k := by have := of_decide_eq_false q4; omega
        have q20 : decide ((l.length : Int) ≤ (k : Int)) = true := decide_eq_true (by omega)
        obtain ⟨j, hj⟩ : ∃ j, k = l.length + j := ⟨k - l.length, by omega⟩
        have hjv : ((k : Int) - (l.length : Int)) = (j : Int) := by omega
        have hz := mk_at (l := l') (F := MI 1) (j := j) (by omega)
        rw [hll, ← hj] at hz
        have hmk : ∀ w', Ct Tryz.prog 140 #[.int .i64 1, .int .i64 ((k : Int) - (l.length : Int))] w' (Is (MI 1 j).val) := fun w' => by
          rw [hjv]
          exact kit_markIns_ct (k := 1) (by decide) (by omega)
        have hSM : decide ((MI 1 j).bare = (MI 1 j).bare) = true := by simp
        have hsm : ∀ w', Ct Tryz.prog 141 #[(MI 1 j).val, (MI 1 j).val] w' (Is (.bool true)) := fun w' => hSM ▸ kit_SameIns_ct reads_none_ reads_none_ (by simp [MI]) (by simp [MI])
        refine Cd.draw mixed 35 (exIs (fun opNo => match opNo with | 30 => some ((MI 1 j).val) | 31 => some (.bool true) | _ => none)) (fun _ => []) (by kernel_rfl) exIs_in (fun u hu => ?_)
        refine Wk.p mvi ?_
        refine Wk.p mvs ?_
        refine Wk.p (lens sl_L_api_Ins) ?_
        refine Wk.p lsi ?_
        refine Wk.p mvb ?_
        refine Wk.gn q4 ?_
        refine Wk.gn q4 ?_
        refine Wk.gn q4 ?_
        refine Wk.gn q4 ?_
        refine Wk.gn q4 ?_
        refine Wk.gn q4 ?_
        refine Wk.gn q4 ?_
        refine Wk.gn q4 ?_
        refine Wk.gn q4 ?_
        refine Wk.gn q4 ?_
        refine Wk.p (pkFb q4) ?_
        refine Wk.p mvb ?_
        refine Wk.gp rfl mvi ?_
        refine Wk.gp rfl mvs ?_
        refine Wk.gp rfl (lens sl_L_api_Ins) ?_
        refine Wk.gp rfl gei ?_
        refine Wk.gp rfl mvb ?_
        refine Wk.gp q20 mvs ?_
        refine Wk.gp q20 mvi ?_
        refine Wk.gp q20 (ixn (ix := k) sl_L_api_Ins (Som.slc hro (by omega))) ?_
        refine Wk.gp q20 (lds (es := (MI 1 j).cells) ag_api_Ins hro (MI 1 j).len (fun q u hu => ins_cell (l := l' ++ mkIL 12) hz hu)) ?_
        refine Wk.gp q20 mvi ?_
        refine Wk.gp q20 mvs ?_
        refine Wk.gp q20 (lens sl_L_api_Ins) ?_
        refine Wk.gp q20 subi ?_
        refine Wk.gdk hu q20 (sp_call (vs := [.int .i64 1, .int .i64 ((k : Int) - (l.length : Int))]) en_kit_markIns (fun M w' hh => hmk w')) ?_
        refine Wk.gdk hu q20 (sp_call (vs := [(MI 1 j).val, (MI 1 j).val]) en_kit_SameIns (fun M w' hh => hsm w')) ?_
        refine Wk.gp q20 noti ?_
        refine Wk.gp rfl (pkTb q20) ?_
        refine Wk.p (pkFb rfl) ?_
        refine Wk.nil ?_
        rw [needs_exIs hu rfl]
        refine Ol.nil ?_
        exact ⟨⟨rfl, rfl, rfl, rfl, trivial⟩, rfl⟩
    rintro σ' _ ⟨hs', rfl⟩
    refine Cd.has hs' ?_
    clear hs'
    refine Cd.cond rfl (fun h => by cases h) (fun _ => ?_)
    refine Cd.skip ?_
    refine Cd.region ?_
    refine Ol.p mvi ?_
    refine Ol.p addi ?_
    refine Ol.p asi ?_
    refine Ol.nil ?_
    exact ⟨l.length + 12 - (k + 1), by omega, k + 1, rfl, by omega, ⟨rfl, rfl, rfl, trivial⟩, rfl⟩
  refine Cd.exit (id := 0) ?_
  refine Cd.seq ?_
  refine Cd.region ?_
  refine Ol.p asb ?_
  refine Ol.nil ?_
  exact Cd.ret ⟨.bool true, ret1 rfl rfl, [], Keep.nil, rfl, rfl⟩
end
section
theorem kit_KeptBlock_ct {w : World} {a b : RBlk} (hb : a.bare = b.bare) (ha : BlkL w w.heap.size a) (hr : BlkR w w.heap.size b) (hlen : b.ins.length < 2 ^ 36) (hal : ∀ i ∈ b.ins, i.args.length < 2 ^ 40) : Ct Tryz.prog 97 #[a.val, b.val] w (Is (.bool true)) := by
  have hins : a.ins.map RIns.bare = b.ins.map RIns.bare := (congrArg RBlk.ins hb : a.bare.ins = b.bare.ins)
  have hll : a.ins.length = b.ins.length := by
    have := congrArg List.length hins
    simpa using this
  have hS : decide (a.bare = b.bare) = true := decide_eq_true hb
  have haa : ∀ i ∈ a.ins, i.args.length < 2 ^ 40 := fun i hi => by
    have : i.bare ∈ b.ins.map RIns.bare := hins ▸ List.mem_map_of_mem hi
    obtain ⟨j, hj, ej⟩ := List.mem_map.1 this
    have e : j.args = i.args := (congrArg RIns.args ej : j.bare.args = i.bare.args)
    rw [← e]; exact hal j hj
  have har : BlkR w w.heap.size a := ⟨ha.ins.lentN, fun i hi => (ha.args i hi).lentI, fun i hi => by have := haa i hi; omega, by omega⟩
  refine Ct.mk Tryz.func97 rfl rfl ?_
  refine Cd.seq ?_
  refine Cd.region ?_
  refine Ol.x bxg ?_
  rintro _ _ ⟨g2, rfl, rfl⟩
  refine Ol.x bxg ?_
  rintro _ _ ⟨g3, rfl, rfl⟩
  refine Ol.p asb ?_
  refine Ol.nil ?_
  refine Cd.seq ?_
  refine Cd.region ?_
  refine Ol.p (ldw (cs := a.cells.toArray) ag_api_Block (i := 1) rfl rfl) ?_
  refine Ol.p (ldw (cs := b.cells.toArray) ag_api_Block (i := 0) rfl rfl) ?_
  refine Ol.s (cl (v := .bool true) en_kit_SameBlock (fun M w' hh => hS ▸ kit_SameBlock_ct (har.now hh) (hr.now hh))) ?_
  refine Ol.p mvb ?_
  refine Ol.gp rfl (fdl fd_api_Block_0) ?_
  refine Ol.gp rfl (ld (v := .slice a.iA a.ins.length a.iC) one_L_api_Ins (Rd.blk (i := 1) rfl rfl)) ?_
  refine Ol.gp rfl (fdl fd_api_Block_0) ?_
  refine Ol.gp rfl (ld (v := .slice b.iA b.ins.length b.iC) one_L_api_Ins (Rd.blk (i := 0) rfl rfl)) ?_
  refine Ol.gs rfl (cl (v := .bool true) en_kit_KeptRow (fun M w' hh => kit_KeptRow_ct hins ((ha.now hh).ins) ha.ic (ha.now hh).args ha.ac ((hr.now hh).ins) ((hr.now hh).args) hlen hal)) ?_
  refine Ol.p (pkTb rfl) ?_
  refine Ol.p asb ?_
  refine Ol.nil ?_
  exact Cd.ret ⟨.bool true, ret1 rfl rfl, [], Keep.nil, rfl, rfl⟩
end
section
set_option maxHeartbeats 2000000 in
theorem kit_KeptBlocks_ct {w : World} {A B : Option Addr} {c d : Nat} {l' l : List RBlk} (hb : l'.map RBlk.bare = l.map RBlk.bare) (hro : Reads w w.heap.size 5 A (l'.length + 12) ((l' ++ mkBL 12).flatMap RBlk.cells)) (hc : l'.length + 12 ≤ c) (hra : ∀ x ∈ l', BlkL w w.heap.size x) (hl : Reads w w.heap.size 5 B l.length (l.flatMap RBlk.cells)) (hla : ∀ x ∈ l, BlkR w w.heap.size x) (hlen : l.length < 2 ^ 36) (hil : ∀ x ∈ l, x.ins.length < 2 ^ 36) (hal : ∀ x ∈ l, ∀ i ∈ x.ins, i.args.length < 2 ^ 40) : Ct Tryz.prog 60 #[.slice A l'.length c, .slice B l.length d] w (Is (.bool true)) := by
  have hll : l'.length = l.length := by
    have := congrArg List.length hb
    simpa using this
  rw [hll] at hro hc
  refine Ct.mk Tryz.func60 rfl rfl ?_
  refine Cd.seq ?_
  refine Cd.region ?_
  refine Ol.p asb ?_
  refine Ol.nil ?_
  refine Cd.seq ?_
  refine Cd.seq ?_
  refine Cd.region ?_
  refine Ol.p mvs ?_
  refine Ol.p (lens sl_L_api_Block) ?_
  refine Ol.p mvs ?_
  refine Ol.p (lens sl_L_api_Block) ?_
  refine Ol.p nei ?_
  refine Ol.nil ?_
  refine Cd.cond rfl (fun h => ?_) (fun _ => ?_)
  · exfalso
    have h : (!decide ((l'.length : Int) = (l.length : Int))) = true := h
    rw [decide_eq_true (by omega)] at h
    cases h
  refine Cd.skip ?_
  refine Cd.seq ?_
  refine Cd.region ?_
  refine Ol.p mvs ?_
  refine Ol.p mvs ?_
  refine Ol.p (lens sl_L_api_Block) ?_
  refine Ol.p addi ?_
  refine Ol.p (slh (A := A) (c := c) (h := l.length + 12) sl_L_api_Block (by omega) (hy := congrArg (Value.int .i64) (show (l.length : Int) + 12 = ((l.length + 12 : Nat) : Int) by omega))) ?_
  refine Ol.p ass ?_
  refine Ol.nil ?_
  refine Cd.seq ?_
  refine Cd.seq ?_
  refine Cd.region ?_
  refine Ol.p asi ?_
  refine Ol.nil ?_
  refine Cd.block ?_
  refine Cd.loop (fun m σ L => ∃ k, m = l.length + 12 - k ∧ k ≤ l.length + 12 ∧ Has σ [(1, .slice B l.length d), (5, .slice A (l.length + 12) c), (6, .int .i64 k)] ∧ [] = L) (n := l.length + 12) ⟨0, rfl, Nat.zero_le _, ⟨rfl, rfl, rfl, trivial⟩, rfl⟩ ?_
  rintro _ σ L ⟨k, rfl, hk, hs, rfl⟩
  refine Cd.has hs ?_
  clear hs
  refine Cd.seq ?_
  refine Cd.seq ?_
  refine Cd.region ?_
  refine Ol.p mvi ?_
  refine Ol.p mvs ?_
  refine Ol.p (lens sl_L_api_Block) ?_
  refine Ol.p lsi ?_
  refine Ol.nil ?_
  refine Cd.cond rfl (fun h => ?_) (fun h => ?_)
  · have hlt : k < l.length + 12 := by
      have h : decide ((k : Int) < ((l.length + 12 : Nat) : Int)) = true := h
      have := of_decide_eq_true h
      omega
    refine Cd.skip ?_
    refine Cd.seq ?_
    refine Cd.block ?_
    refine Cd.mid (fun σ' L' => Has σ' [(1, .slice B l.length d), (5, .slice A (l.length + 12) c), (6, .int .i64 k), (57, .bool false)] ∧ [] = L') ?_ ?_
    · cases q4 : decide ((k : Int) < (l.length : Int)) with
      | true =>
        have hkl : k < l.length := by have := of_decide_eq_true q4; omega
        have q20 : decide ((l.length : Int) ≤ (k : Int)) = false := decide_eq_false (by omega)
        obtain ⟨x, hx⟩ : ∃ x, l'[k]? = some x := ⟨_, List.getElem?_eq_getElem (by omega)⟩
        obtain ⟨y, hy⟩ : ∃ y, l[k]? = some y := ⟨_, List.getElem?_eq_getElem hkl⟩
        have hxm := List.mem_of_getElem? hx
        have hym := List.mem_of_getElem? hy
        have hxy : x.bare = y.bare := by
          have := congrArg (fun z : List RBlk => z[k]?) hb
          simp only [List.getElem?_map, hx, hy, Option.map_some] at this
          exact Option.some.inj this
        refine Cd.draw mixed 35 (exIs (fun opNo => match opNo with | 13 => some (.bool true) | _ => none)) (fun _ => []) (by kernel_rfl) exIs_in (fun u hu => ?_)
        refine Wk.p mvi ?_
        refine Wk.p mvs ?_
        refine Wk.p (lens sl_L_api_Block) ?_
        refine Wk.p lsi ?_
        refine Wk.p mvb ?_
        refine Wk.gp q4 mvs ?_
        refine Wk.gp q4 mvi ?_
        refine Wk.gp q4 (ixn (ix := k) sl_L_api_Block (Som.slc hro (by omega))) ?_
        refine Wk.gp q4 (lds (es := x.cells) ag_api_Block hro x.len (fun q u hu => blk_cell (mk_old hx) hu)) ?_
        refine Wk.gp q4 mvs ?_
        refine Wk.gp q4 mvi ?_
        refine Wk.gp q4 (ixn (ix := k) sl_L_api_Block (Som.slc hl (by omega))) ?_
        refine Wk.gp q4 (lds (es := y.cells) ag_api_Block hl y.len (fun q u hu => blk_cell hy hu)) ?_
        refine Wk.gdk hu q4 (sp_call (vs := [x.val, y.val]) en_kit_KeptBlock (fun M w' hh => kit_KeptBlock_ct hxy ((hra x hxm).now hh) ((hla y hym).now hh) (hil y hym) (hal y hym))) ?_
        refine Wk.gp q4 noti ?_
        refine Wk.p (pkTb q4) ?_
        refine Wk.p mvb ?_
        refine Wk.gp rfl mvi ?_
        refine Wk.gp rfl mvs ?_
        refine Wk.gp rfl (lens sl_L_api_Block) ?_
        refine Wk.gp rfl gei ?_
        refine Wk.gp rfl mvb ?_
        refine Wk.gn q20 ?_
        refine Wk.gn q20 ?_
        refine Wk.gn q20 ?_
        refine Wk.gn q20 ?_
        refine Wk.gn q20 ?_
        refine Wk.gn q20 ?_
        refine Wk.gn q20 ?_
        refine Wk.gn q20 ?_
        refine Wk.gn q20 ?_
        refine Wk.gn q20 ?_
        refine Wk.gn q20 ?_
        refine Wk.gp rfl (pkFb q20) ?_
        refine Wk.p (pkFb rfl) ?_
        refine Wk.nil ?_
        rw [needs_exIs hu rfl]
        refine Ol.nil ?_
        exact ⟨⟨rfl, rfl, rfl, rfl, trivial⟩, rfl⟩
      | false =>
        have hkl : l.length ≤ k := by have := of_decide_eq_false q4; omega
        have q20 : decide ((l.length : Int) ≤ (k : Int)) = true := decide_eq_true (by omega)
        obtain ⟨j, hj⟩ : ∃ j, k = l.length + j := ⟨k - l.length, by omega⟩
        have hjv : ((k : Int) - (l.length : Int)) = (j : Int) := by omega
        have hz := mk_at (l := l') (F := MB 1) (j := j) (by omega)
        rw [hll, ← hj] at hz
        have hmk : ∀ w', Ct Tryz.prog 93 #[.int .i64 1, .int .i64 ((k : Int) - (l.length : Int))] w' (Is (MB 1 j).val) := fun w' => by
          rw [hjv]
          exact kit_markBlock_ct (k := 1) (by decide) (by omega)
        have hSM : decide ((MB 1 j).bare = (MB 1 j).bare) = true := by simp
        have hMB : ∀ w', BlkR w' w'.heap.size (MB 1 j) := fun w' => ⟨reads_none_, (fun i hi => by simp [MB] at hi), (fun i hi => by simp [MB] at hi), by simp [MB]⟩
        have hsm : ∀ w', Ct Tryz.prog 98 #[(MB 1 j).val, (MB 1 j).val] w' (Is (.bool true)) := fun w' => hSM ▸ kit_SameBlock_ct (hMB w') (hMB w')
        refine Cd.draw mixed 35 (exIs (fun opNo => match opNo with | 30 => some ((MB 1 j).val) | 31 => some (.bool true) | _ => none)) (fun _ => []) (by kernel_rfl) exIs_in (fun u hu => ?_)
        refine Wk.p mvi ?_
        refine Wk.p mvs ?_
        refine Wk.p (lens sl_L_api_Block) ?_
        refine Wk.p lsi ?_
        refine Wk.p mvb ?_
        refine Wk.gn q4 ?_
        refine Wk.gn q4 ?_
        refine Wk.gn q4 ?_
        refine Wk.gn q4 ?_
        refine Wk.gn q4 ?_
        refine Wk.gn q4 ?_
        refine Wk.gn q4 ?_
        refine Wk.gn q4 ?_
        refine Wk.gn q4 ?_
        refine Wk.gn q4 ?_
        refine Wk.p (pkFb q4) ?_
        refine Wk.p mvb ?_
        refine Wk.gp rfl mvi ?_
        refine Wk.gp rfl mvs ?_
        refine Wk.gp rfl (lens sl_L_api_Block) ?_
        refine Wk.gp rfl gei ?_
        refine Wk.gp rfl mvb ?_
        refine Wk.gp q20 mvs ?_
        refine Wk.gp q20 mvi ?_
        refine Wk.gp q20 (ixn (ix := k) sl_L_api_Block (Som.slc hro (by omega))) ?_
        refine Wk.gp q20 (lds (es := (MB 1 j).cells) ag_api_Block hro (MB 1 j).len (fun q u hu => blk_cell (l := l' ++ mkBL 12) hz hu)) ?_
        refine Wk.gp q20 mvi ?_
        refine Wk.gp q20 mvs ?_
        refine Wk.gp q20 (lens sl_L_api_Block) ?_
        refine Wk.gp q20 subi ?_
        refine Wk.gdk hu q20 (sp_call (vs := [.int .i64 1, .int .i64 ((k : Int) - (l.length : Int))]) en_kit_markBlock (fun M w' hh => hmk w')) ?_
        refine Wk.gdk hu q20 (sp_call (vs := [(MB 1 j).val, (MB 1 j).val]) en_kit_SameBlock (fun M w' hh => hsm w')) ?_
        refine Wk.gp q20 noti ?_
        refine Wk.gp rfl (pkTb q20) ?_
        refine Wk.p (pkFb rfl) ?_
        refine Wk.nil ?_
        rw [needs_exIs hu rfl]
        refine Ol.nil ?_
        exact ⟨⟨rfl, rfl, rfl, rfl, trivial⟩, rfl⟩
    rintro σ' _ ⟨hs', rfl⟩
    refine Cd.has hs' ?_
    clear hs'
    refine Cd.cond rfl (fun h => by cases h) (fun _ => ?_)
    refine Cd.skip ?_
    refine Cd.region ?_
    refine Ol.p mvi ?_
    refine Ol.p addi ?_
    refine Ol.p asi ?_
    refine Ol.nil ?_
    exact ⟨l.length + 12 - (k + 1), by omega, k + 1, rfl, by omega, ⟨rfl, rfl, rfl, trivial⟩, rfl⟩
  refine Cd.exit (id := 0) ?_
  refine Cd.seq ?_
  refine Cd.region ?_
  refine Ol.p asb ?_
  refine Ol.nil ?_
  exact Cd.ret ⟨.bool true, ret1 rfl rfl, [], Keep.nil, rfl, rfl⟩
end
section
theorem kit_KeptFunc_ct {w : World} {g f : RFun} (hb : g.bare = f.bare) (hg : LentAt w w.heap.size g) (hf : FunAt w w.heap.size f) (hgf : FitC g) (hff : FitC f) (hp : f.params.length < 2 ^ 40) (hl : BlksIn w w.heap.size f.bA f.blocks) (hal : ∀ b ∈ f.blocks, ∀ i ∈ b.ins, i.args.length < 2 ^ 40) : Ct Tryz.prog 20 #[g.val, f.val] w (Is (.bool true)) := by
  have hpar : g.params = f.params := (congrArg RFun.params hb : g.bare.params = f.bare.params)
  have hblk : g.blocks.map RBlk.bare = f.blocks.map RBlk.bare := (congrArg RFun.blocks hb : g.bare.blocks = f.bare.blocks)
  have hS : decide (g.bare = f.bare) = true := decide_eq_true hb
  have hgp := hg.params
  have hgc := hg.pc
  rw [hpar] at hgp hgc
  have hfr : ∀ x ∈ f.blocks, BlkR w w.heap.size x := fun x hx => ⟨hf.ins x hx, hf.args x hx, fun i hi => by have := hal x hx i hi; omega, by have := hl.ilen x hx; omega⟩
  refine Ct.mk Tryz.func20 rfl rfl ?_
  refine Cd.seq ?_
  refine Cd.region ?_
  refine Ol.x bxg ?_
  rintro _ _ ⟨g2, rfl, rfl⟩
  refine Ol.x bxg ?_
  rintro _ _ ⟨g3, rfl, rfl⟩
  refine Ol.p asb ?_
  refine Ol.nil ?_
  refine Cd.seq ?_
  refine Cd.region ?_
  refine Ol.p (ldw (cs := g.cells.toArray) ag_api_Func (i := 1) rfl rfl) ?_
  refine Ol.p (ldw (cs := f.cells.toArray) ag_api_Func (i := 0) rfl rfl) ?_
  refine Ol.s (cl (v := .bool true) en_kit_SameFunc (fun M w' hh => hS ▸ kit_SameFunc_ct (hg.fun_.now hh) (hf.now hh) hgf hff)) ?_
  refine Ol.p mvb ?_
  refine Ol.gp rfl (fdl fd_api_Func_0) ?_
  refine Ol.gp rfl (ld (v := .slice g.pA f.params.length g.pC) one_L_int (Rd.blk (i := 1) rfl (show g.cells.toArray[0 + 0]? = some (.slice g.pA f.params.length g.pC) from by rw [← hpar]; rfl))) ?_
  refine Ol.gp rfl (fdl fd_api_Func_0) ?_
  refine Ol.gp rfl (ld (v := .slice f.pA f.params.length f.pC) one_L_int (Rd.blk (i := 0) rfl rfl)) ?_
  refine Ol.gs rfl (cl (v := .bool true) en_kit_KeptInts (fun M w' hh => kit_KeptInts_ct (l := f.params) (hgp.now hh) hgc (hf.params.now hh) hp)) ?_
  refine Ol.p (pkTb rfl) ?_
  refine Ol.p mvb ?_
  refine Ol.gp rfl (fdl fd_api_Func_1) ?_
  refine Ol.gp rfl (ld (v := .slice g.bA g.blocks.length g.bC) one_L_api_Block (Rd.blk (i := 1) rfl rfl)) ?_
  refine Ol.gp rfl (fdl fd_api_Func_1) ?_
  refine Ol.gp rfl (ld (v := .slice f.bA f.blocks.length f.bC) one_L_api_Block (Rd.blk (i := 0) rfl rfl)) ?_
  refine Ol.gs rfl (cl (v := .bool true) en_kit_KeptBlocks (fun M w' hh => kit_KeptBlocks_ct hblk (hg.blocks.now hh) hg.bc (fun x hx => (hg.blk x hx).now hh) (hf.blocks.now hh) (fun x hx => (hfr x hx).now hh) hl.len hl.ilen hal)) ?_
  refine Ol.p (pkTb rfl) ?_
  refine Ol.p asb ?_
  refine Ol.nil ?_
  exact Cd.ret ⟨.bool true, ret1 rfl rfl, [], Keep.nil, rfl, rfl⟩
end
end Go.Proofs.YtjenaenakopicaaGreat

/- append onto a slice in a block of one's own: in its room, or in a new block, the old one stays. Over any program. -/
namespace Go.Proofs.YtjenaenakopicaaGreat
set_option linter.unusedVariables false
open Go Go.RowKit

def Keepq (i e g n m c : Nat) (cs : Array Value) (xs ys : List Value) (L : List Res) : Value → List Res → Prop := fun v L' =>
  (∃ cs' : Array Value, n + m ≤ c ∧ v = .slice (some ⟨g, 0, none⟩) (n + m) c ∧ L' = L.set i (blk g (.cells cs' e)) ∧ cs'.size = cs.size ∧ (∀ j : Nat, j < n → cs'[j]? = cs[j]?) ∧ (∀ (j : Nat) (u : Value), ys[j]? = some u → cs'[n + j]? = some u)) ∨
  (∃ A' c', v = .slice A' (n + m) c' ∧ L' = row (.slice A' (n + m) c') e 1 (n + m) (xs ++ ys) :: L)
section
variable {P : Program} {w0 : World} {B : Nat} {σ : Env} {L : List Res} {d : Option Nat} {ty T : TypeId} {pos : String} {af : Array Edge} {gd : Option (Nat × Bool)} {x y : Operand}
end
end Go.Proofs.YtjenaenakopicaaGreat

/- Lists that lie apart: what is marked, what has grown. -/
namespace Go.Proofs.YtjenaenakopicaaGreat
set_option linter.unusedVariables false
open Go Go.RowKit

def mkV (k j : Nat) : Value := .int .i64 (mkN k j)
def mkVs (k n : Nat) : List Value := (List.range n).map (mkV k)
/-- A list: where it lies, its length, its row's length, its room. -/
structure Li where
  A : Option Addr
  n : Nat
  m : Nat
  c : Nat
def Li.v (x : Li) : Value := .slice x.A x.n x.c
def hdL (N : Nat) (it : Nat → Li) : List Value := (List.range N).map fun k => (it k).v
def rowL (x : Li) (xs : List Value) : Res := row (.slice x.A x.m x.c) 3 1 x.m xs
def rowsL (N : Nat) (it : Nat → Li) (X : Nat → List Value) : List Res := (List.range N).map fun k => rowL (it k) (X k)
/-- The lists from the k-th on. -/
def restL (N : Nat) (it : Nat → Li) (X : Nat → List Value) (k : Nat) : List Res := (List.range' k (N - k)).map fun q => rowL (it q) (X q)
/-- A list's own block, that holds its marks. -/
def OwnL (k : Nat) (x : Li) (R : List Res) : Prop := (x.A = none ∧ x.n = 0 ∧ x.c = 0) ∨ ∃ (g : Nat) (cs : Array Value) (Z : List Res), x.A = some ⟨g, 0, none⟩ ∧ R = blk g (.cells cs 3) :: Z ∧ x.n ≤ x.c ∧ x.c ≤ cs.size ∧ ∀ j : Nat, j < x.n → cs[j]? = some (mkV k j)
/-- A list with its marks, and what it has grown to: the first d of it are known. -/
def GrownL (w0 : World) (B k d : Nat) (x : Li) (R : List Res) (v : Value) : Prop := OwnL k x R ∧ ∃ (A : Option Addr) (c : Nat) (ys : List Value), v = .slice A (x.n + 64) c ∧ Src w0 B R A (x.n + 64) 1 ys ∧ ∀ j : Nat, j < d → ys[j]? = some (mkV k j)
/-- The lists ahead of the k-th have grown. -/
def AllL (w0 : World) (B : Nat) (it : Nat → Li) (d : Nat → Nat) (k : Nat) (D : List (List Res)) (hs : List Value) : Prop := D.length = k ∧ ∀ q, q < k → ∃ R v, D[q]? = some R ∧ hs[q]? = some v ∧ GrownL w0 B q (d q) (it q) R v
/-- What the k-th list is, while it grows: in its own block, or in a new one, its old block behind it. -/
def GrowsL (k i : Nat) (x : Li) (v : Value) (S : Res) (Z : List Res) : Prop :=
  (∃ (g : Nat) (cs : Array Value), Z = [] ∧ x.A = some ⟨g, 0, none⟩ ∧ v = .slice (some ⟨g, 0, none⟩) (x.n + i) x.c ∧ S = blk g (.cells cs 3) ∧ x.n + i ≤ x.c ∧ x.c ≤ cs.size ∧ ∀ j : Nat, j < x.n + i → cs[j]? = some (mkV k j)) ∨
  (∃ (A : Option Addr) (c : Nat), v = .slice A (x.n + i) c ∧ S = row (.slice A (x.n + i) c) 3 1 (x.n + i) (mkVs k (x.n + i)) ∧ OwnL k x Z)
theorem drop_of {α : Type} {l : List α} {k : Nat} {x : α} (h : l[k]? = some x) : l.drop k = x :: l.drop (k + 1) := by
  obtain ⟨h1, rfl⟩ := List.getElem?_eq_some_iff.1 h
  exact List.drop_eq_getElem_cons h1
end Go.Proofs.YtjenaenakopicaaGreat

/- The document's answer of layer 03: a function's variables, its most, its size, walked. -/
namespace Go.Proofs.YtjenaenakopicaaGreat
set_option linter.unusedVariables false
set_option linter.unusedSimpArgs false
open Go Go.RowKit
set_option maxRecDepth 100000

section
end
section
end
section
end
end Go.Proofs.YtjenaenakopicaaGreat

/- The law 03: IrTells, walked. -/
namespace Go.Proofs.YtjenaenakopicaaGreat
set_option linter.unusedVariables false
open Go Go.RowKit
set_option maxRecDepth 100000

section
end
end Go.Proofs.YtjenaenakopicaaGreat

/- Functions written out by hand: where they lie, that they are fit. -/
namespace Go.Proofs.YtjenaenakopicaaGreat
set_option linter.unusedVariables false
open Go Go.RowKit
set_option maxRecDepth 100000
def I1 (v : Int) : RIns := ⟨1, v, 0, 0, 0, 0, none, 0, [], 0⟩
def IRn (n : Int) : Prop := -9223372036854775808 ≤ n ∧ n ≤ 9223372036854775807
/-- A block of constants. -/
def OKB (b : RBlk) : Prop := (∀ n ∈ [b.term.kind, b.term.a, b.term.t0, b.term.t1], IRn n) ∧ b.ins.length < 2 ^ 50 ∧ b.ins.length ≤ b.iC ∧ ∀ i ∈ b.ins, ∃ v, i = I1 v ∧ IRn v
def TB0 (n : Nat) : Tm := ⟨2, 1 + (n : Int).tmod 3, 1, 1 + (IntKind.i64.wrap ((n : Int).tdiv 9)).tmod 3⟩
def TB1 (n : Nat) : Tm := ⟨1 + (n : Int).tmod 4, (n : Int).tmod 3, (n : Int).tmod 5 - 1, (IntKind.i64.wrap ((n : Int).tdiv 5)).tmod 4⟩
def TB2 (n : Nat) : Tm := ⟨3, (n : Int).tmod 4, 0, 0⟩
def TB3 : Tm := ⟨1, 0, 2, 0⟩
def IB0 (n : Nat) : RIns := I1 (1 + (IntKind.i64.wrap ((n : Int).tdiv 2)).tmod 2)
def IB1 (n : Nat) : RIns := I1 (1 + (n : Int).tmod 2)
def IB3 (n : Nat) : RIns := I1 ((n : Int).tmod 4)
def BK (g : Nat) (i : RIns) (t : Tm) : RBlk := ⟨some ⟨g, 0, none⟩, 1, [i], t⟩
def BN (t : Tm) : RBlk := ⟨none, 0, [], t⟩
def L03 (n g0 g1 g3 : Nat) : List RBlk := [BK g0 (IB0 n) (TB0 n), BK g1 (IB1 n) (TB1 n), BN (TB2 n), BK g3 (IB3 n) TB3]
def FL03 (gp gb : Nat) (ps : List Int) (bs : List RBlk) : RFun := ⟨some ⟨gp, 0, none⟩, ps.length, ps, some ⟨gb, 0, none⟩, 4, bs⟩
def VF (n g1 : Nat) : Value → List Res → Prop := fun v R => ∃ g g0 g3 : Nat, v = .slice (some ⟨g, 0, none⟩) 4 4 ∧ R = [row (.slice (some ⟨g, 0, none⟩) 4 4) 34 5 4 ((L03 n g0 g1 g3).flatMap RBlk.cells), row (.slice (some ⟨g0, 0, none⟩) 1 1) 25 8 1 (IB0 n).cells, row (.slice (some ⟨g3, 0, none⟩) 1 1) 25 8 1 (IB3 n).cells]
end Go.Proofs.YtjenaenakopicaaGreat

/- A store of a struct into a row of one's own; lists of blocks that are written so. Over any program. -/
namespace Go.Proofs.YtjenaenakopicaaGreat
set_option linter.unusedVariables false
open Go Go.RowKit
theorem take_mid {α : Type} {cs vs : List α} {k m N : Nat} (hv : vs.length = m) (hk : k + m ≤ N) (hN : N ≤ cs.length) : (cs.take k ++ vs ++ cs.drop (k + m)).take N = (cs.take N).take k ++ vs ++ (cs.take N).drop (k + m) := by
  have hl : (cs.take k ++ vs).length = k + m := by
    rw [List.length_append, List.length_take, hv]
    omega
  rw [List.take_append, List.take_of_length_le (by omega : (cs.take k ++ vs).length ≤ N), hl, List.take_take, Nat.min_eq_left (by omega : k ≤ N), List.drop_take]
section
variable {P : Program} {w0 : World} {B : Nat} {σ : Env} {L : List Res} {d : Option Nat} {ty T : TypeId} {pos : String} {af : Array Edge} {gd : Option (Nat × Bool)} {x y : Operand}
theorem stra {i e s n c k m : Nat} {A : Option Addr} {xs : List Value} {vs : Array Value} (hT : (P.info? T).map (·.size) = some m) (hn : vs.size = m) (hm : 0 < m) (h1 : ∀ u ∈ vs.toList, u.oneCell' = true) (hi : L[i]? = some (row (.slice A n c) e s n xs)) (hk : k + m ≤ xs.length) (hy : ev σ y = .agg vs := by exact rfl) (hx : ev σ x = .pointer (some (ap A k)) := by exact rfl) :
    Sp P w0 B ⟨d, .store T x y, ty, pos, af, gd⟩ σ L (det undef (L.set i (row (.slice A n c) e s n (xs.take k ++ vs.toList ++ xs.drop (k + m))))) := fun M w hh => by
  have hown : w.ownsRow 0 e s (.slice A n c) n xs := hh.at_ hi
  have hlen := hown.1
  rcases hown.2 with ⟨_, h0⟩ | ⟨g, cap, cur, hv, _, hg, hnc, hcm, hcs, htake⟩
  · rw [h0, Nat.zero_mul] at hlen
    omega
  · injection hv with hA _ hcc
    subst hA
    subst hcc
    have hns : n * s ≤ cur.size := by rw [hcs]; exact Nat.mul_le_mul_right s hnc
    have hvl : vs.toList.length = m := by simpa using hn
    obtain ⟨w', hr, hst, hb⟩ := run_storeCells_all (P := P) (g := g) (e := e) vs.toList k 0 cur w hg (by rw [hvl]; omega) h1
    simp only [Nat.add_zero, hvl] at hb
    have hrow : w'.ownsRow 0 e s (.slice (some ⟨g, 0, none⟩) n c) n (xs.take k ++ vs.toList ++ xs.drop (k + m)) := by
      refine ⟨?_, .inr ⟨g, c, _, rfl, Nat.zero_le _, hb, hnc, hcm, ?_, ?_⟩⟩
      · simp only [List.length_append, List.length_take, List.length_drop, hvl]
        omega
      · simp only [List.size_toArray, List.length_append, List.length_take, List.length_drop, hvl, Array.length_toList]
        omega
      · rw [← htake]
        exact take_mid hvl (by omega) (by simpa using hns)
    refine .inr (.inl ⟨w', ?_, _, hh.set (r' := row (.slice (some ⟨g, 0, none⟩) n c) e s n (xs.take k ++ vs.toList ++ xs.drop (k + m))) hi (hst.mono fun b _ hb => ?_) hrow (fun _ hk => .inl hk), rfl, rfl⟩)
    · rw [ap_own] at hx
      simp only [execOp, hx, hy, Instr.storeAt, Instr.sureAddr, storeVar, Value.cells, Sem.run_bind, Sem.run_pure, Result.andThen_ok, run_size hT, hn, ne_eq, not_true_eq_false, if_false, Sem.run_ite]
      rw [hr]
      rfl
    · have : b = g := hb
      subst this
      simp [row, Value.ownBlock]
end
end Go.Proofs.YtjenaenakopicaaGreat

/- The kit: what was lent is written over, walked. -/
namespace Go.Proofs.YtjenaenakopicaaGreat
set_option linter.unusedVariables false
set_option linter.unusedSimpArgs false
open Go Go.RowKit
set_option maxRecDepth 100000
/-- A row of one's own, to another length within its room. -/
theorem Cd.rowup {C : Ctx} {x : Code} {Q : Exit → Env → List Res → Prop} {σ : Env} {L : List Res} {n c e s k : Nat} {A : Option Addr} {xs : List Value} (hk : k ≤ c) (h : ∀ ys : List Value, ys.length = k * s → Cd C x Q σ (row (.slice A k c) e s k ys :: L)) : Cd C x Q σ (row (.slice A n c) e s n xs :: L) := fun a w ha hs => by
  have hr : w.ownsRow 0 e s (.slice A n c) n xs := hs.heap.has (row (.slice A n c) e s n xs) (by simp)
  rcases hr.2 with ⟨hv, _⟩ | ⟨g, cap, cur, hv, _, hg, _, hm, hsz, _⟩
  · injection hv with e1 e2 e3
    have hk0 : k = 0 := by omega
    subst e1 e3 hk0
    refine h [] (by simp) a w ha ⟨hs.size, Hp.set0 (r := row (.slice none n 0) e s n xs) (r' := row (.slice none 0 0) e s 0 []) hs.heap (Stp.refl _ _) ⟨by simp, .inl ⟨rfl, rfl⟩⟩ (fun q hq => by simp [row, Value.ownBlock] at hq)⟩
  · injection hv with e1 e2 e3
    subst e1 e3
    have hks : k * s ≤ cur.size := by rw [hsz]; exact Nat.mul_le_mul_right s hk
    have hl : (cur.toList.take (k * s)).length = k * s := by simp; omega
    refine h (cur.toList.take (k * s)) hl a w ha ⟨hs.size, Hp.set0 (r := row (.slice (some ⟨g, 0, none⟩) n c) e s n xs) (r' := row (.slice (some ⟨g, 0, none⟩) k c) e s k (cur.toList.take (k * s))) hs.heap (Stp.refl _ _) ⟨hl, .inr ⟨g, c, cur, rfl, Nat.zero_le _, hg, hk, hm, hsz, rfl⟩⟩ (fun q hq => by simpa [row, Value.ownBlock] using hq)⟩
theorem min_nat {c n : Nat} : (if (n : Int) + 12 < (c : Int) then (n : Int) + 12 else (c : Int)) = ((min c (n + 12) : Nat) : Int) := by
  split <;> omega
section
theorem kit_OverInts_cm {w0 : World} {B n m c : Nat} {A : Option Addr} {xs : List Value} (hn : n < 2 ^ 39) (hcc : c < 2 ^ 63) : Cm Tryz.prog 23 #[.slice A n c] w0 B [row (.slice A m c) 3 1 m xs] (fun v L => v = .tuple #[] ∧ L = []) := by
  refine Cm.mk Tryz.func23 rfl rfl fun M => ?_
  obtain ⟨k, hk⟩ : ∃ k, k = min c (n + 12) := ⟨_, rfl⟩
  have hkc : k ≤ c := by omega
  have hkn : k < 2 ^ 40 := by omega
  have hmin : (if (n : Int) + 12 < (c : Int) then (n : Int) + 12 else (c : Int)) = (k : Int) := by rw [hk]; exact min_nat
  refine Cd.rowup hkc fun ys0 hy0 => ?_
  refine Cd.seq ?_
  refine Cd.region ?_
  refine Ol.p mvs ?_
  refine Ol.p mvs ?_
  refine Ol.p (caps sl_L_int) ?_
  refine Ol.p mvs ?_
  refine Ol.p (lens sl_L_int) ?_
  refine Ol.p addi ?_
  refine Ol.p mini ?_
  refine Ol.p (slh (A := A) (n := n) (c := c) (h := k) sl_L_int hkc (hy := congrArg (Value.int .i64) hmin)) ?_
  refine Ol.p ass ?_
  refine Ol.nil ?_
  refine Cd.seq ?_
  refine Cd.region ?_
  refine Ol.p asi ?_
  refine Ol.nil ?_
  refine Cd.block ?_
  refine Cd.loop (fun m σ L => ∃ (i : Nat) (ys : List Value), m = k - i ∧ i ≤ k ∧ Has σ [(2, .slice A k c), (3, .int .i64 i)] ∧ ys.length = k * 1 ∧ [row (.slice A k c) 3 1 k ys] = L) (n := k) ⟨0, ys0, rfl, Nat.zero_le _, ⟨rfl, rfl, trivial⟩, hy0, rfl⟩ ?_
  rintro _ σ L ⟨i, ys, rfl, hi, hs, hyl, rfl⟩
  refine Cd.has hs ?_
  clear hs
  refine Cd.seq ?_
  refine Cd.seq ?_
  refine Cd.region ?_
  refine Ol.p mvi ?_
  refine Ol.p mvs ?_
  refine Ol.p (lens sl_L_int) ?_
  refine Ol.p lsi ?_
  refine Ol.nil ?_
  refine Cd.cond rfl (fun h => ?_) (fun h => ?_)
  · have hik : i < k := by
      have h : decide ((i : Int) < (k : Int)) = true := h
      have := of_decide_eq_true h
      omega
    refine Cd.skip ?_
    refine Cd.seq ?_
    refine Cd.block ?_
    refine Cd.region ?_
    refine Ol.p mvs ?_
    refine Ol.p mvi ?_
    refine Ol.p mvi ?_
    refine Ol.s (cl (v := mkV 2 i) en_kit_mark (fun M w' hh => kit_mark_ct (k := 2) (by decide) (by omega))) ?_
    refine Ol.p (ixn1 (ix := i) sl_L_int (Som.row (i := 0) rfl (by omega))) ?_
    refine Ol.s (str (i := 0) (k := i) (v := mkV 2 i) sz_int rfl rfl rfl (by omega) rfl) ?_
    refine Ol.nil ?_
    refine Cd.region ?_
    refine Ol.p mvi ?_
    refine Ol.p addi ?_
    refine Ol.p asi ?_
    refine Ol.nil ?_
    exact ⟨k - (i + 1), by omega, i + 1, ys.set i (mkV 2 i), rfl, by omega, ⟨rfl, rfl, trivial⟩, by simp [hyl], rfl⟩
  exact Cd.exit (id := 0) ⟨_, ret0 rfl, [], Keep.nil, rfl, rfl⟩
end
section
theorem kit_OverIns_cm {w0 : World} {B : Nat} {i : RIns} (hn : i.args.length < 2 ^ 39) (hcc : i.aC < 2 ^ 63) : Cm Tryz.prog 159 #[i.val] w0 B [insLent i] (fun v L => v = .tuple #[] ∧ L = []) := by
  refine Cm.mk Tryz.func159 rfl rfl fun M => ?_
  refine Cd.seq ?_
  refine Cd.region ?_
  refine Ol.x bxg ?_
  rintro _ _ ⟨g1, rfl, rfl⟩
  refine Ol.nil ?_
  refine Cd.region ?_
  refine Ol.p (fdl fd_api_Ins_6) ?_
  refine Ol.p (ld (v := .slice i.aA i.args.length i.aC) one_L_int (Rd.blk (i := 0) (k := 6) rfl rfl)) ?_
  refine Ol.x (sp_callm (vs := [.slice i.aA i.args.length i.aC]) (Lin := [insLent i]) (L2 := [blk g1 (.cells i.cells.toArray 25)]) en_kit_OverInts (List.Perm.swap _ _ _) (kit_OverInts_cm (n := i.args.length) (m := i.args.length + 12) hn hcc)) ?_
  rintro _ _ ⟨_, rfl, rfl, rfl⟩
  refine Ol.nil ?_
  exact ⟨_, ret0 rfl, [], Keep.nil, rfl, rfl⟩
end
section
set_option maxHeartbeats 1000000 in
theorem kit_OverRow_cm {w0 : World} {B c : Nat} {A : Option Addr} {l : List RIns} (hn : l.length < 2 ^ 39) (hcc : c < 2 ^ 63) (hok : ∀ i ∈ l, i.args.length < 2 ^ 39 ∧ i.aC < 2 ^ 63) : Cm Tryz.prog 136 #[.slice A l.length c] w0 B (lIns A c l :: l.map insLent) (fun v L => v = .tuple #[] ∧ L = []) := by
  refine Cm.mk Tryz.func136 rfl rfl fun M => ?_
  obtain ⟨k, hk⟩ : ∃ k, k = min c (l.length + 12) := ⟨_, rfl⟩
  have hkc : k ≤ c := by omega
  have hkn : k < 2 ^ 40 := by omega
  have hmin : (if (l.length : Int) + 12 < (c : Int) then (l.length : Int) + 12 else (c : Int)) = (k : Int) := by rw [hk]; exact min_nat
  refine Cd.seq ?_
  refine Cd.seq ?_
  refine Cd.region ?_
  refine Ol.p asi ?_
  refine Ol.nil ?_
  refine Cd.block ?_
  refine Cd.loop (fun m σ L => ∃ q : Nat, m = l.length - q ∧ q ≤ l.length ∧ Has σ [(0, .slice A l.length c), (2, .int .i64 q)] ∧ lIns A c l :: (l.drop q).map insLent = L) (n := l.length) ⟨0, rfl, Nat.zero_le _, ⟨rfl, rfl, trivial⟩, rfl⟩ ?_
  rintro _ σ L ⟨q, rfl, hq, hs, rfl⟩
  refine Cd.has hs ?_
  clear hs
  refine Cd.seq ?_
  refine Cd.seq ?_
  refine Cd.region ?_
  refine Ol.p mvi ?_
  refine Ol.p mvs ?_
  refine Ol.p (lens sl_L_api_Ins) ?_
  refine Ol.p lsi ?_
  refine Ol.nil ?_
  refine Cd.cond rfl (fun h => ?_) (fun h => ?_)
  · have hql : q < l.length := by
      have h : decide ((q : Int) < (l.length : Int)) = true := h
      have := of_decide_eq_true h
      omega
    obtain ⟨x, hx⟩ : ∃ x, l[q]? = some x := ⟨_, List.getElem?_eq_getElem hql⟩
    have hxm := List.mem_of_getElem? hx
    rw [drop_of hx, List.map_cons]
    obtain ⟨RS, hRS⟩ : ∃ RS, RS = (l.drop (q + 1)).map insLent := ⟨_, rfl⟩
    rw [← hRS]
    refine Cd.skip ?_
    refine Cd.seq ?_
    refine Cd.block ?_
    refine Cd.region ?_
    refine Ol.p mvs ?_
    refine Ol.p mvi ?_
    refine Ol.p (ixn (ix := q) sl_L_api_Ins (Som.row (i := 0) rfl (by omega))) ?_
    refine Ol.p (ldr (es := x.cells) ag_api_Ins (i := 0) rfl rfl (fun j u hu => by rw [flat_get RIns.len (l ++ mkIL 12) q j x (mk_old hx) (by have := (List.getElem?_eq_some_iff.1 hu).1; rw [RIns.len] at this; exact this)]; exact hu)) ?_
    refine Ol.x (sp_callm (vs := [x.val]) (Lin := [insLent x]) (L2 := lIns A c l :: RS) en_kit_OverIns (List.Perm.swap _ _ _) (kit_OverIns_cm (hok x hxm).1 (hok x hxm).2)) ?_
    rintro _ _ ⟨_, rfl, rfl, rfl⟩
    refine Ol.nil ?_
    refine Cd.region ?_
    refine Ol.p mvi ?_
    refine Ol.p addi ?_
    refine Ol.p asi ?_
    refine Ol.nil ?_
    exact ⟨l.length - (q + 1), by omega, q + 1, rfl, by omega, ⟨rfl, rfl, trivial⟩, by rw [hRS]; rfl⟩
  refine Cd.exit (id := 0) ?_
  refine Cd.keep (.sub (.cons_cons _ (List.nil_sublist _))) ?_
  refine Cd.rowup (n := l.length + 12) hkc fun ys0 hy0 => ?_
  refine Cd.seq ?_
  refine Cd.region ?_
  refine Ol.p mvs ?_
  refine Ol.p mvs ?_
  refine Ol.p (caps sl_L_api_Ins) ?_
  refine Ol.p mvs ?_
  refine Ol.p (lens sl_L_api_Ins) ?_
  refine Ol.p addi ?_
  refine Ol.p mini ?_
  refine Ol.p (slh (A := A) (n := l.length) (c := c) (h := k) sl_L_api_Ins hkc (hy := congrArg (Value.int .i64) hmin)) ?_
  refine Ol.p ass ?_
  refine Ol.nil ?_
  refine Cd.seq ?_
  refine Cd.region ?_
  refine Ol.p asi ?_
  refine Ol.nil ?_
  refine Cd.block ?_
  refine Cd.loop (fun m σ L => ∃ (i : Nat) (ys : List Value), m = k - i ∧ i ≤ k ∧ Has σ [(3, .slice A k c), (4, .int .i64 i)] ∧ ys.length = k * 8 ∧ [row (.slice A k c) 25 8 k ys] = L) (n := k) ⟨0, ys0, rfl, Nat.zero_le _, ⟨rfl, rfl, trivial⟩, hy0, rfl⟩ ?_
  rintro _ σ L ⟨i, ys, rfl, hi, hs, hyl, rfl⟩
  refine Cd.has hs ?_
  clear hs
  refine Cd.seq ?_
  refine Cd.seq ?_
  refine Cd.region ?_
  refine Ol.p mvi ?_
  refine Ol.p mvs ?_
  refine Ol.p (lens sl_L_api_Ins) ?_
  refine Ol.p lsi ?_
  refine Ol.nil ?_
  refine Cd.cond rfl (fun h => ?_) (fun h => ?_)
  · have hik : i < k := by
      have h : decide ((i : Int) < (k : Int)) = true := h
      have := of_decide_eq_true h
      omega
    refine Cd.skip ?_
    refine Cd.seq ?_
    refine Cd.block ?_
    refine Cd.region ?_
    refine Ol.p mvs ?_
    refine Ol.p mvi ?_
    refine Ol.p mvi ?_
    refine Ol.s (cl (v := (MI 2 i).val) en_kit_markIns (fun M w' hh => kit_markIns_ct (k := 2) (by decide) (by omega))) ?_
    refine Ol.p (ixn (ix := i) sl_L_api_Ins (Som.row (i := 0) rfl (by omega))) ?_
    refine Ol.s (stra (i := 0) (k := i * 8) (m := 8) (vs := (MI 2 i).cells.toArray) sz_api_Ins rfl (by decide) (MI 2 i).one rfl (by omega)) ?_
    refine Ol.nil ?_
    refine Cd.region ?_
    refine Ol.p mvi ?_
    refine Ol.p addi ?_
    refine Ol.p asi ?_
    refine Ol.nil ?_
    exact ⟨k - (i + 1), by omega, i + 1, _, rfl, by omega, ⟨rfl, rfl, trivial⟩, by have hc : (MI 2 i).cells.toArray.toList.length = 8 := rfl; rw [List.length_append, List.length_append, List.length_take, List.length_drop, hc, hyl]; omega, rfl⟩
  exact Cd.exit (id := 2) ⟨_, ret0 rfl, [], Keep.nil, rfl, rfl⟩
end
section
def OvB (b : RBlk) : Prop := b.ins.length < 2 ^ 39 ∧ b.iC < 2 ^ 63 ∧ ∀ i ∈ b.ins, i.args.length < 2 ^ 39 ∧ i.aC < 2 ^ 63
theorem kit_OverBlock_cm {w0 : World} {B : Nat} {b : RBlk} (h1 : b.ins.length < 2 ^ 39) (h2 : b.iC < 2 ^ 63) (h3 : ∀ i ∈ b.ins, i.args.length < 2 ^ 39 ∧ i.aC < 2 ^ 63) : Cm Tryz.prog 99 #[b.val] w0 B (blkLent b) (fun v L => v = .tuple #[] ∧ L = []) := by
  refine Cm.mk Tryz.func99 rfl rfl fun M => ?_
  obtain ⟨RS, hRS⟩ : ∃ RS, RS = blkLent b := ⟨_, rfl⟩
  rw [← hRS]
  refine Cd.seq ?_
  refine Cd.region ?_
  refine Ol.x bxg ?_
  rintro _ _ ⟨g1, rfl, rfl⟩
  refine Ol.nil ?_
  refine Cd.region ?_
  refine Ol.p (fdl fd_api_Block_0) ?_
  refine Ol.p (ld (v := .slice b.iA b.ins.length b.iC) one_L_api_Ins (Rd.blk (i := 0) (k := 0) rfl rfl)) ?_
  refine Ol.x (sp_callm (vs := [.slice b.iA b.ins.length b.iC]) (Lin := blkLent b) (L2 := [blk g1 (.cells b.cells.toArray 34)]) en_kit_OverRow (by rw [hRS]; exact List.perm_append_comm (l₁ := [_])) (kit_OverRow_cm h1 h2 h3)) ?_
  rintro _ _ ⟨_, rfl, rfl, rfl⟩
  refine Ol.nil ?_
  exact ⟨_, ret0 rfl, [], Keep.nil, rfl, rfl⟩
end
section
set_option maxHeartbeats 1000000 in
theorem kit_OverBlocks_cm {w0 : World} {B c : Nat} {A : Option Addr} {l : List RBlk} (hn : l.length < 2 ^ 39) (hcc : c < 2 ^ 63) (hok : ∀ b ∈ l, b.ins.length < 2 ^ 39 ∧ b.iC < 2 ^ 63 ∧ ∀ i ∈ b.ins, i.args.length < 2 ^ 39 ∧ i.aC < 2 ^ 63) : Cm Tryz.prog 61 #[.slice A l.length c] w0 B (lBlk A c l :: l.flatMap blkLent) (fun v L => v = .tuple #[] ∧ L = []) := by
  refine Cm.mk Tryz.func61 rfl rfl fun M => ?_
  obtain ⟨k, hk⟩ : ∃ k, k = min c (l.length + 12) := ⟨_, rfl⟩
  have hkc : k ≤ c := by omega
  have hkn : k < 2 ^ 40 := by omega
  have hmin : (if (l.length : Int) + 12 < (c : Int) then (l.length : Int) + 12 else (c : Int)) = (k : Int) := by rw [hk]; exact min_nat
  refine Cd.seq ?_
  refine Cd.seq ?_
  refine Cd.region ?_
  refine Ol.p asi ?_
  refine Ol.nil ?_
  refine Cd.block ?_
  refine Cd.loop (fun m σ L => ∃ q : Nat, m = l.length - q ∧ q ≤ l.length ∧ Has σ [(0, .slice A l.length c), (2, .int .i64 q)] ∧ lBlk A c l :: (l.drop q).flatMap blkLent = L) (n := l.length) ⟨0, rfl, Nat.zero_le _, ⟨rfl, rfl, trivial⟩, rfl⟩ ?_
  rintro _ σ L ⟨q, rfl, hq, hs, rfl⟩
  refine Cd.has hs ?_
  clear hs
  refine Cd.seq ?_
  refine Cd.seq ?_
  refine Cd.region ?_
  refine Ol.p mvi ?_
  refine Ol.p mvs ?_
  refine Ol.p (lens sl_L_api_Block) ?_
  refine Ol.p lsi ?_
  refine Ol.nil ?_
  refine Cd.cond rfl (fun h => ?_) (fun h => ?_)
  · have hql : q < l.length := by
      have h : decide ((q : Int) < (l.length : Int)) = true := h
      have := of_decide_eq_true h
      omega
    obtain ⟨x, hx⟩ : ∃ x, l[q]? = some x := ⟨_, List.getElem?_eq_getElem hql⟩
    have hxm := List.mem_of_getElem? hx
    rw [drop_of hx, List.flatMap_cons]
    obtain ⟨RS, hRS⟩ : ∃ RS, RS = (l.drop (q + 1)).flatMap blkLent := ⟨_, rfl⟩
    rw [← hRS]
    refine Cd.skip ?_
    refine Cd.seq ?_
    refine Cd.block ?_
    refine Cd.region ?_
    refine Ol.p mvs ?_
    refine Ol.p mvi ?_
    refine Ol.p (ixn (ix := q) sl_L_api_Block (Som.row (i := 0) rfl (by omega))) ?_
    refine Ol.p (ldr (es := x.cells) ag_api_Block (i := 0) rfl rfl (fun j u hu => by rw [flat_get RBlk.len (l ++ mkBL 12) q j x (mk_old hx) (by have := (List.getElem?_eq_some_iff.1 hu).1; rw [RBlk.len] at this; exact this)]; exact hu)) ?_
    refine Ol.x (sp_callm (vs := [x.val]) (Lin := (blkLent x)) (L2 := lBlk A c l :: RS) en_kit_OverBlock List.perm_middle.symm (kit_OverBlock_cm (hok x hxm).1 (hok x hxm).2.1 (hok x hxm).2.2)) ?_
    rintro _ _ ⟨_, rfl, rfl, rfl⟩
    refine Ol.nil ?_
    refine Cd.region ?_
    refine Ol.p mvi ?_
    refine Ol.p addi ?_
    refine Ol.p asi ?_
    refine Ol.nil ?_
    exact ⟨l.length - (q + 1), by omega, q + 1, rfl, by omega, ⟨rfl, rfl, trivial⟩, by rw [hRS]; rfl⟩
  refine Cd.exit (id := 0) ?_
  refine Cd.keep (.sub (.cons_cons _ (List.nil_sublist _))) ?_
  refine Cd.rowup (n := l.length + 12) hkc fun ys0 hy0 => ?_
  refine Cd.seq ?_
  refine Cd.region ?_
  refine Ol.p mvs ?_
  refine Ol.p mvs ?_
  refine Ol.p (caps sl_L_api_Block) ?_
  refine Ol.p mvs ?_
  refine Ol.p (lens sl_L_api_Block) ?_
  refine Ol.p addi ?_
  refine Ol.p mini ?_
  refine Ol.p (slh (A := A) (n := l.length) (c := c) (h := k) sl_L_api_Block hkc (hy := congrArg (Value.int .i64) hmin)) ?_
  refine Ol.p ass ?_
  refine Ol.nil ?_
  refine Cd.seq ?_
  refine Cd.region ?_
  refine Ol.p asi ?_
  refine Ol.nil ?_
  refine Cd.block ?_
  refine Cd.loop (fun m σ L => ∃ (i : Nat) (ys : List Value), m = k - i ∧ i ≤ k ∧ Has σ [(3, .slice A k c), (4, .int .i64 i)] ∧ ys.length = k * 5 ∧ [row (.slice A k c) 34 5 k ys] = L) (n := k) ⟨0, ys0, rfl, Nat.zero_le _, ⟨rfl, rfl, trivial⟩, hy0, rfl⟩ ?_
  rintro _ σ L ⟨i, ys, rfl, hi, hs, hyl, rfl⟩
  refine Cd.has hs ?_
  clear hs
  refine Cd.seq ?_
  refine Cd.seq ?_
  refine Cd.region ?_
  refine Ol.p mvi ?_
  refine Ol.p mvs ?_
  refine Ol.p (lens sl_L_api_Block) ?_
  refine Ol.p lsi ?_
  refine Ol.nil ?_
  refine Cd.cond rfl (fun h => ?_) (fun h => ?_)
  · have hik : i < k := by
      have h : decide ((i : Int) < (k : Int)) = true := h
      have := of_decide_eq_true h
      omega
    refine Cd.skip ?_
    refine Cd.seq ?_
    refine Cd.block ?_
    refine Cd.region ?_
    refine Ol.p mvs ?_
    refine Ol.p mvi ?_
    refine Ol.p mvi ?_
    refine Ol.s (cl (v := (MB 2 i).val) en_kit_markBlock (fun M w' hh => kit_markBlock_ct (k := 2) (by decide) (by omega))) ?_
    refine Ol.p (ixn (ix := i) sl_L_api_Block (Som.row (i := 0) rfl (by omega))) ?_
    refine Ol.s (stra (i := 0) (k := i * 5) (m := 5) (vs := (MB 2 i).cells.toArray) sz_api_Block rfl (by decide) (MB 2 i).one rfl (by omega)) ?_
    refine Ol.nil ?_
    refine Cd.region ?_
    refine Ol.p mvi ?_
    refine Ol.p addi ?_
    refine Ol.p asi ?_
    refine Ol.nil ?_
    exact ⟨k - (i + 1), by omega, i + 1, _, rfl, by omega, ⟨rfl, rfl, trivial⟩, by have hc : (MB 2 i).cells.toArray.toList.length = 5 := rfl; rw [List.length_append, List.length_append, List.length_take, List.length_drop, hc, hyl]; omega, rfl⟩
  exact Cd.exit (id := 2) ⟨_, ret0 rfl, [], Keep.nil, rfl, rfl⟩
end
section
theorem kit_OverFunc_cm {w0 : World} {B : Nat} {f : RFun} (hp : f.params.length < 2 ^ 39) (hpc : f.pC < 2 ^ 63) (hb : f.blocks.length < 2 ^ 39) (hbc : f.bC < 2 ^ 63) (hok : ∀ b ∈ f.blocks, b.ins.length < 2 ^ 39 ∧ b.iC < 2 ^ 63 ∧ ∀ i ∈ b.ins, i.args.length < 2 ^ 39 ∧ i.aC < 2 ^ 63) : Cm Tryz.prog 22 #[f.val] w0 B (funLent f) (fun v L => v = .tuple #[] ∧ L = []) := by
  refine Cm.mk Tryz.func22 rfl rfl fun M => ?_
  obtain ⟨RS, hRS⟩ : ∃ RS, RS = lBlk f.bA f.bC f.blocks :: f.blocks.flatMap blkLent := ⟨_, rfl⟩
  show Cd _ _ _ _ (lInt f.pA f.pC f.params :: (lBlk f.bA f.bC f.blocks :: f.blocks.flatMap blkLent))
  rw [← hRS]
  refine Cd.seq ?_
  refine Cd.region ?_
  refine Ol.x bxg ?_
  rintro _ _ ⟨g1, rfl, rfl⟩
  refine Ol.nil ?_
  refine Cd.seq ?_
  refine Cd.region ?_
  refine Ol.p (fdl fd_api_Func_0) ?_
  refine Ol.p (ld (v := .slice f.pA f.params.length f.pC) one_L_int (Rd.blk (i := 0) (k := 0) rfl rfl)) ?_
  refine Ol.x (sp_callm (vs := [.slice f.pA f.params.length f.pC]) (Lin := [lInt f.pA f.pC f.params]) (L2 := blk g1 (.cells f.cells.toArray 37) :: RS) en_kit_OverInts (List.Perm.swap _ _ _) (kit_OverInts_cm (n := f.params.length) (m := f.params.length + 12) hp hpc)) ?_
  rintro _ _ ⟨_, rfl, rfl, rfl⟩
  refine Ol.nil ?_
  refine Cd.region ?_
  refine Ol.p (fdl fd_api_Func_1) ?_
  refine Ol.p (ld (v := .slice f.bA f.blocks.length f.bC) one_L_api_Block (Rd.blk (i := 0) (k := 1) rfl rfl)) ?_
  refine Ol.x (sp_callm (vs := [.slice f.bA f.blocks.length f.bC]) (Lin := RS) (L2 := [blk g1 (.cells f.cells.toArray 37)]) en_kit_OverBlocks (List.perm_append_comm (l₁ := [_])) (by rw [hRS]; exact kit_OverBlocks_cm hb hbc hok)) ?_
  rintro _ _ ⟨_, rfl, rfl, rfl⟩
  refine Ol.nil ?_
  exact ⟨_, ret0 rfl, [], Keep.nil, rfl, rfl⟩
end
end Go.Proofs.YtjenaenakopicaaGreat

/- The law 08: RunDoes, walked. -/
namespace Go.Proofs.YtjenaenakopicaaGreat
set_option linter.unusedVariables false
set_option linter.unusedSimpArgs false
open Go Go.RowKit
set_option maxRecDepth 100000
theorem Cd.fact {C : Ctx} {c : Code} {Q : Exit → Env → List Res → Prop} {σ : Env} {L : List Res} {p : Prop} (h : ∀ M w, Hp C.w0 C.B (M ++ L) w → p) (k : p → Cd C c Q σ L) : Cd C c Q σ L := fun a w ha hs => k (h _ _ hs.heap) a w ha hs
theorem cap_top {w : World} {A : Option Addr} {n c e s : Nat} {xs : List Value} (h : w.ownsRow 0 e s (.slice A n c) n xs) : c < 2 ^ 63 := by
  rcases h.2 with ⟨hv, h0⟩ | ⟨g, cap, cur, hv, _, _, _, hm, _⟩
  · injection hv with _ _ hc
    omega
  · injection hv with _ _ hc
    unfold maxLen at hm
    omega
structure FunCap (g : RFun) : Prop where
  p : g.pC < 2 ^ 63
  b : g.bC < 2 ^ 63
  i : ∀ b ∈ g.blocks, b.iC < 2 ^ 63 ∧ ∀ i ∈ b.ins, i.aC < 2 ^ 63
theorem FunCap.own {w0 w : World} {B : Nat} {M L : List Res} {g : RFun} (hh : Hp w0 B (M ++ L) w) (hs : ∀ r ∈ funLent g, r ∈ L) : FunCap g := by
  have key : ∀ {A : Option Addr} {n c e s : Nat} {xs : List Value}, row (Value.slice A n c) e s n xs ∈ funLent g → c < 2 ^ 63 := fun hm => cap_top (hh.has _ (List.mem_append_right _ (hs _ hm)))
  refine ⟨key (List.mem_cons_self ..), key (List.mem_cons_of_mem _ (List.mem_cons_self ..)), fun b hb => ⟨key (mem_blkLent hb (List.mem_cons_self ..)), fun i hi => key (mem_blkLent hb (List.mem_cons_of_mem _ (List.mem_map_of_mem hi)))⟩⟩
theorem params_bare {f g : RFun} (hb : g.bare = f.bare) : g.params = f.params := (congrArg RFun.params hb : g.bare.params = f.bare.params)
theorem begS_bare {f g : RFun} (hb : g.bare = f.bare) (args mem ans : List Int) : begS g args mem ans = begS f args mem ans := by
  unfold begS
  rw [params_bare hb]
theorem okB_bare {f g : RFun} (hb : g.bare = f.bare) (args mem : List Int) : okB g args mem ↔ okB f args mem := by
  unfold okB
  rw [params_bare hb, rightF_same hb]
theorem Runs.same {f g : RFun} (e : g.bare = f.bare) {s : RSt} {n : Nat} (h : Runs f s n) : Runs g s n := by
  refine ⟨fun he => ?_, h.steps, h.calls, h.args, h.mem⟩
  obtain ⟨b, hb, hi⟩ := h.stand he
  have hbl : g.blocks.map RBlk.bare = f.blocks.map RBlk.bare := congrArg RFun.blocks e
  have h1 : (g.blocks.map RBlk.bare)[s.b]? = some b.bare := by rw [hbl, List.getElem?_map, hb]; rfl
  rw [List.getElem?_map] at h1
  cases hg : g.blocks[s.b]? with
  | none => rw [hg] at h1; cases h1
  | some b' =>
    rw [hg] at h1
    have h2 : b'.bare = b.bare := Option.some.inj h1
    have hl : b'.ins.length = b.ins.length := by
      have := congrArg (fun x => x.ins.length) h2
      simpa [RBlk.bare] using this
    exact ⟨b', rfl, by omega⟩
theorem argSum_bare (l : List RIns) : argSum (l.map RIns.bare) = argSum l := by
  unfold argSum
  rw [List.map_map]
  rfl
theorem bsz_bare (b : RBlk) : bsz b.bare = bsz b := by
  unfold bsz RBlk.bare
  simp only [argSum_bare, List.length_map]
theorem sz_bare8 {f g : RFun} (hb : g.bare = f.bare) {n : Nat} (h : f.sz ≤ n) : g.sz ≤ n := by
  have e : ∀ x : RFun, x.sz = x.bare.params.length + (x.bare.blocks.map bsz).sum := fun x => by
    show x.params.length + (x.blocks.map bsz).sum = x.params.length + ((x.blocks.map RBlk.bare).map bsz).sum
    rw [List.map_map, show bsz ∘ RBlk.bare = bsz from funext bsz_bare]
  rw [e, hb, ← e]
  exact h
noncomputable def errB (f : RFun) (args mem : List Int) : Int := if okB f args mem then 0 else 2
noncomputable def errF (f : RFun) (args mem : List Int) (n : Int) : Int := if okB f args mem then (if n ≤ 20000 then 0 else 3) else 2
def noResC : Array Value := #[.int .i64 0, .int .i64 0, .slice none 0 0, .slice none 0 0, .int .i64 0]
section
theorem GoR.bare {f g : RFun} (hb : g.bare = f.bare) {args mem ans : List Int} {n : Int} {v : Value} {R : List Res} (h : GoR g args mem ans n v R) : GoR f args mem ans n v R := by
  unfold GoR at h ⊢
  rw [begS_bare hb, okB_bare hb, goS_same hb] at h
  exact h
theorem GoR.uni {f : RFun} {args mem ans : List Int} {n : Int} {v : Value} {R : List Res} (h : GoR f args mem ans n v R) : ∃ cs : Array Value, v = .tuple #[.agg cs, .int .i64 (errF f args mem n)] ∧ cs.size = 5 ∧ (∀ u ∈ cs.toList, u.oneCell' = true) ∧
    ((errF f args mem n = 0 ∧ okB f args mem ∧ n ≤ 20000 ∧ ∃ z : RRes, z.of (goS f (begS f args mem ans) n.toNat) ∧ cs = z.cells.toArray ∧ R.Perm z.res) ∨ (errF f args mem n ≠ 0 ∧ cs = noResC ∧ R = [])) := by
  rcases h with ⟨h1, h2, z, h3, rfl, h4⟩ | ⟨h1, rfl, rfl⟩ | ⟨h1, h2, rfl, rfl⟩
  · have e : errF f args mem n = 0 := by unfold errF; rw [if_pos h1, if_pos h2]
    exact ⟨_, by rw [e], rfl, z.one, .inl ⟨e, h1, h2, z, h3, rfl, h4⟩⟩
  · have e : errF f args mem n = 2 := by unfold errF; rw [if_neg h1]
    exact ⟨noResC, by rw [e]; rfl, rfl, by intro u hu; simp [noResC] at hu; rcases hu with rfl | rfl | rfl <;> rfl, .inr ⟨by rw [e]; decide, rfl, rfl⟩⟩
  · have e : errF f args mem n = 3 := by unfold errF; rw [if_pos h1, if_neg (by omega)]
    exact ⟨noResC, by rw [e]; rfl, rfl, by intro u hu; simp [noResC] at hu; rcases hu with rfl | rfl | rfl <;> rfl, .inr ⟨by rw [e]; decide, rfl, rfl⟩⟩
end
section
theorem WGo.uni {w0 : World} {B : Nat} {f : RFun} {args mem ans : List Int} {n : Int} {v : Value} {R : List Res} (h : WGo w0 B f args mem ans n v R) : ∃ pb : Option Addr, v = .tuple #[.pointer pb, .int .i64 (errF f args mem n)] ∧
    ((errF f args mem n = 0 ∧ ∃ y : RLay, WOk w0 B y (goS f (begS f args mem ans) n.toNat) ∧ pb = some ⟨y.gR, 0, none⟩ ∧ R = wL (fF0 f) (fF1 f) y (goS f (begS f args mem ans) n.toNat)) ∨ (errF f args mem n ≠ 0 ∧ pb = none ∧ R = [])) := by
  rcases h with ⟨h1, h2, y, h3, rfl, h4⟩ | ⟨h1, rfl, rfl⟩ | ⟨h1, h2, rfl, rfl⟩
  · have e : errF f args mem n = 0 := by unfold errF; rw [if_pos h1, if_pos h2]
    exact ⟨_, by rw [e], .inl ⟨e, y, h3, rfl, h4⟩⟩
  · have e : errF f args mem n = 2 := by unfold errF; rw [if_neg h1]
    exact ⟨none, by rw [e], .inr ⟨by rw [e]; decide, rfl, rfl⟩⟩
  · have e : errF f args mem n = 3 := by unfold errF; rw [if_pos h1, if_neg (by omega)]
    exact ⟨none, by rw [e], .inr ⟨by rw [e]; decide, rfl, rfl⟩⟩
end
section
theorem BegR.uni {f g : RFun} (hb : g.bare = f.bare) {args mem ans : List Int} {v : Value} {R : List Res} (h : BegR g args mem ans v R) : ∃ pr : Option Addr, v = .tuple #[.pointer pr, .int .i64 (errB f args mem)] ∧
    ((okB f args mem ∧ ∃ y : RLay, y.g.bare = f.bare ∧ (∀ w0 B, RunOk w0 B y (begS f args mem ans)) ∧ pr = some ⟨y.gR, 0, none⟩ ∧ R = runL y (begS f args mem ans)) ∨ (¬ okB f args mem ∧ pr = none ∧ R = [])) := by
  unfold BegR at h
  rw [okB_bare hb, begS_bare hb] at h
  rcases h with ⟨h1, y, h2, h3, rfl, h4⟩ | ⟨h1, rfl, rfl⟩
  · exact ⟨_, by unfold errB; rw [if_pos h1], .inl ⟨h1, y, h2.trans hb, h3, rfl, h4⟩⟩
  · exact ⟨none, by unfold errB; rw [if_neg h1], .inr ⟨h1, rfl, rfl⟩⟩
end
section
theorem WBeg.uni {f : RFun} {args mem ans : List Int} {v : Value} {R : List Res} (h : WBeg f args mem ans v R) : ∃ pr : Option Addr, v = .tuple #[.pointer pr, .int .i64 (errB f args mem)] ∧
    ((okB f args mem ∧ ∃ y : RLay, (∀ w0 B, WOk w0 B y (begS f args mem ans)) ∧ pr = some ⟨y.gR, 0, none⟩ ∧ R = wL (fF0 f) (fF1 f) y (begS f args mem ans)) ∨ (¬ okB f args mem ∧ pr = none ∧ R = [])) := by
  rcases h with ⟨h1, y, h3, rfl, h4⟩ | ⟨h1, rfl, rfl⟩
  · exact ⟨_, by unfold errB; rw [if_pos h1], .inl ⟨h1, y, h3, rfl, h4⟩⟩
  · exact ⟨none, by unfold errB; rw [if_neg h1], .inr ⟨h1, rfl, rfl⟩⟩
end
section
variable {P : Program} {w0 : World} {B : Nat} {σ : Env} {L : List Res} {d : Option Nat} {ty T : TypeId} {pos : String} {af : Array Edge} {gd : Option (Nat × Bool)} {x y : Operand}
theorem nen {u : TypeId} {p : Option Addr} (hT : P.underlying T = some (.pointer (P.pointee T))) (hx : ev σ x = .pointer p := by exact rfl) (hy : ev σ y = .pointer none := by exact rfl) : Sd P w0 B ⟨d, .binOp .neq T x y u, ty, pos, af, gd⟩ σ L (.bool (!p.isNone)) := sp_val fun w => by
  have h := run_equal_pointer_nil (P := P) w T p hT
  simp [execOp, hx, hy, binOp, eqGuard_pointer, h]
end
theorem pt_P_ref08_Run : Tryz.prog.underlying 50 = some (.pointer (Tryz.prog.pointee 50)) := by kernel_rfl
theorem Keep.tail {X LB : List Res} {r : Res} : Keep (X ++ (r :: LB)) LB := .sub (((List.Sublist.refl _).cons _).trans (List.sublist_append_right _ _))
section
theorem run_Step_any {w0 : World} {B : Nat} {f : RFun} {y : RLay} {s : RSt} {k : Nat} (hF : Fine f) (hb : y.g.bare = f.bare) (hrun : Runs f s k) (hok : RunOk w0 B y s) (hk : k < 2 ^ 36) :
    Cm Tryz.prog 24 #[.pointer (some ⟨y.gR, 0, none⟩)] w0 B (runL y s) (RunTo w0 B y (goS f s 1) (.bool (decide (s.e = 0)))) := by
  have h1 := hrun.steps
  have h2 := hrun.calls
  have h3 := hrun.mem
  have hFg := hF.bare hb
  by_cases he : s.e = 0
  · obtain ⟨b, hbb, hi⟩ := (hrun.same hb).stand he
    have hbm := List.mem_of_getElem? hbb
    have hi64 := hFg.ins b hbm
    rw [decide_eq_true he, show goS f s 1 = stepR f s from if_pos he, ← stepR_same hb]
    exact run_Step_cm hok he hbb hi (by omega) (fun i hi => Nat.lt_trans (hFg.args b hbm i hi) (by decide)) (fun bb ii hx => by obtain ⟨h1, h2, _⟩ := stepB_spot hFg hbb hi hx; exact ⟨h1, h2⟩) (by omega) (by omega) (by omega)
  · rw [decide_eq_false he, goS_end he]
    exact fun M w hh => CallsIn.mono (run_Step_end_cm he M w hh) fun _ _ ⟨v, h1, L, h2, h3, h4⟩ => ⟨v, h1, L, h2, h3, y, rfl, rfl, hok, h4⟩
end
theorem Runs.one {f : RFun} (hF : Fine f) {s : RSt} {k : Nat} (h : Runs f s k) : Runs f (goS f s 1) (k + 1) := Runs.go hF 1 h
end Go.Proofs.YtjenaenakopicaaGreat

/- The law 08: RunDoes, walked whole. -/
namespace Go.Proofs.YtjenaenakopicaaGreat
set_option linter.unusedVariables false
set_option linter.unusedSimpArgs false
open Go Go.RowKit
set_option maxRecDepth 100000
section
set_option maxHeartbeats 8000000 in
theorem law08_RunDoes_ct {w : World} {f : RFun} {aA mA nA : Option Addr} {aC mC nC : Nat} {args mem ans : List Int} {fuel : Int} (hf : FunAt w w.heap.size f) (hfit : Fit f) (ha : Reads w w.heap.size 1 aA args.length (ints args)) (hal : args.length < 2 ^ 60) (hm : Reads w w.heap.size 1 mA mem.length (ints mem)) (hml : mem.length < 2 ^ 60) (hn : Reads w w.heap.size 1 nA ans.length (ints ans)) (hnl : ans.length < 2 ^ 60) :
    Ct Tryz.prog 4 #[f.val, .slice aA args.length aC, .slice mA mem.length mC, .slice nA ans.length nC, .int .i64 fuel] w (Is (.bool true)) := by
  refine Ct.mk Tryz.func4 rfl rfl ?_
  refine Cd.seq ?_
  refine Cd.region ?_
  refine Ol.x bxg ?_
  rintro _ _ ⟨g5, rfl, rfl⟩
  refine Ol.p asb ?_
  refine Ol.nil ?_
  refine Cd.seq ?_
  refine Cd.mid (fun σ' L' => ∃ b : Bool, (b = false → f.sz ≤ 700 ∧ args.length ≤ 700 ∧ mem.length ≤ 700 ∧ ans.length ≤ 700) ∧ Has σ' [(1, .slice aA args.length aC), (2, .slice mA mem.length mC), (3, .slice nA ans.length nC), (4, .int .i64 fuel), (5, .pointer (some ⟨g5, 0, none⟩)), (45, .bool b)] ∧ [blk g5 (.cells f.cells.toArray 37)] = L') ?_ ?_
  · skip
    refine Cd.region ?_
    refine Ol.p (ldw (cs := f.cells.toArray) ag_api_Func (i := 0) rfl rfl) ?_
    refine Ol.x (sp_call (vs := [f.val, .int .i64 700]) en_kit_FuncOf (fun M w' hh => kit_FuncOf_ct (hf.now hh) hfit (most := 700) (by decide))) ?_
    rintro _ _ ⟨_, rfl, N, rfl, hN1, hN2, rfl⟩
    cases h12 : decide ((700 : Int) < (N : Int) + args.length + mem.length + ans.length) with
    | true =>
      refine Ol.p mvs ?_
      refine Ol.p (lens sl_L_int) ?_
      refine Ol.p addi ?_
      refine Ol.p mvs ?_
      refine Ol.p (lens sl_L_int) ?_
      refine Ol.p addi ?_
      refine Ol.p mvs ?_
      refine Ol.p (lens sl_L_int) ?_
      refine Ol.p addi ?_
      refine Ol.p gti ?_
      refine Ol.p mvb ?_
      refine Ol.gn h12 ?_
      refine Ol.gn h12 ?_
      refine Ol.gn h12 ?_
      refine Ol.gu ?_
      refine Ol.gu ?_
      refine Ol.gn h12 ?_
      refine Ol.p (pkTb h12) ?_
      refine Ol.nil ?_
      exact ⟨true, (fun h => by cases h), ⟨rfl, rfl, rfl, rfl, rfl, rfl, trivial⟩, rfl⟩
    | false =>
      have hsz7 : f.sz ≤ 700 ∧ args.length ≤ 700 ∧ mem.length ≤ 700 ∧ ans.length ≤ 700 := by
        simp only [decide_eq_false_iff_not] at h12
        have := hN1 (by omega)
        omega
      cases h15 : decide ((2000 : Int) < fuel) with
      | true =>
        refine Ol.p mvs ?_
        refine Ol.p (lens sl_L_int) ?_
        refine Ol.p addi ?_
        refine Ol.p mvs ?_
        refine Ol.p (lens sl_L_int) ?_
        refine Ol.p addi ?_
        refine Ol.p mvs ?_
        refine Ol.p (lens sl_L_int) ?_
        refine Ol.p addi ?_
        refine Ol.p gti ?_
        refine Ol.p mvb ?_
        refine Ol.gp h12 mvi ?_
        refine Ol.gp h12 gti ?_
        refine Ol.gp h12 mvb ?_
        refine Ol.gp h15 mvi ?_
        refine Ol.gp h15 lsi ?_
        refine Ol.gp h12 (pkTb h15) ?_
        refine Ol.p (pkFb h12) ?_
        refine Ol.nil ?_
        exact ⟨decide (fuel < 20000), fun _ => hsz7, ⟨rfl, rfl, rfl, rfl, rfl, rfl, trivial⟩, rfl⟩
      | false =>
        refine Ol.p mvs ?_
        refine Ol.p (lens sl_L_int) ?_
        refine Ol.p addi ?_
        refine Ol.p mvs ?_
        refine Ol.p (lens sl_L_int) ?_
        refine Ol.p addi ?_
        refine Ol.p mvs ?_
        refine Ol.p (lens sl_L_int) ?_
        refine Ol.p addi ?_
        refine Ol.p gti ?_
        refine Ol.p mvb ?_
        refine Ol.gp h12 mvi ?_
        refine Ol.gp h12 gti ?_
        refine Ol.gp h12 mvb ?_
        refine Ol.gn h15 ?_
        refine Ol.gn h15 ?_
        refine Ol.gp h12 (pkFb h15) ?_
        refine Ol.p (pkFb h12) ?_
        refine Ol.nil ?_
        exact ⟨false, fun _ => hsz7, ⟨rfl, rfl, rfl, rfl, rfl, rfl, trivial⟩, rfl⟩
  rintro σ' _ ⟨b45, hb45, hs', rfl⟩
  refine Cd.has hs' ?_
  clear hs'
  refine Cd.cond rfl (fun h => ?_) (fun h => ?_)
  · refine Cd.seq ?_
    refine Cd.region ?_
    refine Ol.s (cl en_law08_awake (fun M w' hh => law08_awake_ct)) ?_
    refine Ol.p asb ?_
    refine Ol.nil ?_
    exact Cd.ret ⟨.bool true, ret1 rfl rfl, [], Keep.nil, rfl, rfl⟩
  obtain ⟨hsz, hal7, hml7, hnl7⟩ := hb45 h
  clear h hb45
  have hbi : BlksIn w w.heap.size f.bA f.blocks := BlksIn.of8 hf hsz
  have hfs : f.params.length + blocksSz f.blocks ≤ 700 := hsz
  have hpl : f.params.length < 2 ^ 39 := by omega
  have h700 := s8_alen hsz
  have h40 : ∀ b ∈ f.blocks, ∀ i ∈ b.ins, i.args.length < 2 ^ 40 := fun b hb i hi => by
    have := h700 b hb i hi
    omega
  have h43 : ∀ b ∈ f.blocks, ∀ i ∈ b.ins, i.args.length < 2 ^ 43 := fun b hb i hi => by
    have := h700 b hb i hi
    omega
  refine Cd.skip ?_
  refine Cd.seq ?_
  refine Cd.region ?_
  refine Ol.p (ldw (cs := f.cells.toArray) ag_api_Func (i := 0) rfl rfl) ?_
  refine Ol.x (sp_call (vs := [f.val]) en_kit_LentFunc (fun M w' hh => kit_LentFunc_ct (hf.now hh) (by omega) (hbi.now hh) h40)) ?_
  rintro _ _ ⟨X, rfl, g, hb, rfl, hX⟩
  have hfc : FitC g := FitC.same hfit.c hb
  refine Ol.keep (L' := blk g5 (.cells f.cells.toArray 37) :: funLent g) ⟨[], by rw [List.append_nil]; exact List.perm_append_comm.trans (hX.cons _)⟩ ?_
  refine Ol.p mvs ?_
  refine Ol.x (sp_call (vs := [.slice aA args.length aC]) en_kit_LentInts (fun M w' hh => kit_LentInts_ct (ha.now hh) (by omega))) ?_
  rintro _ _ ⟨_, rfl, A50, c50, rfl, rfl⟩
  refine Ol.p mvs ?_
  refine Ol.x (sp_call (vs := [.slice mA mem.length mC]) en_kit_LentInts (fun M w' hh => kit_LentInts_ct (hm.now hh) (by omega))) ?_
  rintro _ _ ⟨_, rfl, A52, c52, rfl, rfl⟩
  refine Ol.p mvs ?_
  refine Ol.x (sp_call (vs := [.slice nA ans.length nC]) en_kit_LentInts (fun M w' hh => kit_LentInts_ct (hn.now hh) (by omega))) ?_
  rintro _ _ ⟨_, rfl, A54, c54, rfl, rfl⟩
  refine Ol.x (alc zr_api_Func) ?_
  rintro _ _ ⟨g11, rfl, rfl⟩
  refine Ol.s (stw (vs := g.cells.toArray) sz_api_Func rfl (by intro u hu; simp [RFun.cells] at hu; rcases hu with rfl | rfl <;> rfl) (i := 0) rfl rfl) ?_
  refine Ol.p ass ?_
  refine Ol.p ass ?_
  refine Ol.p ass ?_
  refine Ol.nil ?_
  obtain ⟨LQ, hLQ⟩ : ∃ LQ, LQ = lInt A54 c54 ans :: lInt A52 c52 mem :: lInt A50 c50 args :: funLent g := ⟨_, rfl⟩
  obtain ⟨LB, hLB⟩ : ∃ LB, LB = blk g11 (.cells g.cells.toArray 37) :: blk g5 (.cells f.cells.toArray 37) :: LQ := ⟨_, rfl⟩
  refine Cd.keep (L' := LB) (keep_count [] fun _ x => by
    rw [hLB, hLQ]
    simp only [List.set_cons_succ, List.set_cons_zero, List.count_append, List.count_cons, List.count_nil, List.cons_append, List.nil_append, List.append_nil]
    omega) ?_
  have h11 : LB[0]? = some (blk g11 (.cells g.cells.toArray 37)) := by rw [hLB]; rfl
  have h5 : LB[1]? = some (blk g5 (.cells f.cells.toArray 37)) := by rw [hLB]; rfl
  have hQ : ∀ {M L : List Res} {w' : World}, (∀ r ∈ LB, r ∈ L) → Hp w w.heap.size (M ++ L) w' → LentAt w' w'.heap.size g ∧ Reads w' w'.heap.size 1 A50 (args.length + 12) (ints (args ++ mkL 12)) ∧ Reads w' w'.heap.size 1 A52 (mem.length + 12) (ints (mem ++ mkL 12)) ∧ Reads w' w'.heap.size 1 A54 (ans.length + 12) (ints (ans ++ mkL 12)) ∧ args.length + 12 ≤ c50 ∧ mem.length + 12 ≤ c52 ∧ ans.length + 12 ≤ c54 := fun {M L w'} hs hh => by
    have hs' : ∀ r ∈ LQ, r ∈ L := fun r hr => hs r (by rw [hLB]; exact List.mem_cons_of_mem _ (List.mem_cons_of_mem _ hr))
    have key : ∀ {A : Option Addr} {c : Nat} {l : List Int}, lInt A c l ∈ LQ → Reads w' w'.heap.size 1 A (l.length + 12) (ints (l ++ mkL 12)) ∧ l.length + 12 ≤ c := fun hm => by
      obtain ⟨i, hi⟩ := List.mem_iff_getElem?.1 (hs' _ hm)
      exact ⟨Reads.row hh (i := i) hi, cap_row (hh.at_ hi)⟩
    have k1 := key (A := A54) (c := c54) (l := ans) (by rw [hLQ]; simp)
    have k2 := key (A := A52) (c := c52) (l := mem) (by rw [hLQ]; simp)
    have k3 := key (A := A50) (c := c50) (l := args) (by rw [hLQ]; simp)
    exact ⟨LentAt.own hh (fun r hr => hs' r (by rw [hLQ]; exact List.mem_cons_of_mem _ (List.mem_cons_of_mem _ (List.mem_cons_of_mem _ hr)))), k3.1, k2.1, k1.1, k3.2, k2.2, k1.2⟩
  have hgp := params_bare hb
  have hgal : ∀ b ∈ g.blocks, ∀ i ∈ b.ins, i.args.length < 2 ^ 43 := fun b hbm i hi => by
    have := s8_alen (sz_bare8 hb hsz) b hbm i hi
    omega
  have hgi : ∀ {M L : List Res} {w' : World}, (∀ r ∈ LB, r ∈ L) → Hp w w.heap.size (M ++ L) w' → BlksIn w' w'.heap.size g.bA g.blocks := fun hs hh => BlksIn.of8 (hQ hs hh).1.fun_ (sz_bare8 hb hsz)
  refine Cd.seq ?_
  refine Cd.region ?_
  refine Ol.p (ldw (cs := g.cells.toArray) ag_api_Func (i := 0) h11 rfl) ?_
  refine Ol.p mvs ?_
  refine Ol.p mvs ?_
  refine Ol.p mvs ?_
  refine Ol.p mvi ?_
  refine Ol.x (sp_call (vs := [g.val, .slice A50 args.length c50, .slice A52 mem.length c52, .slice A54 ans.length c54, .int .i64 fuel]) (R := GoR g args mem ans fuel) en_run_Go (fun M w' hh => by obtain ⟨q1, q2, q3, q4, _⟩ := hQ (fun r h => h) hh; exact run_Go_ct (args := args) (mem := mem) (ans := ans) q1.fun_ (q1.fit hfc) (by rw [hgp]; omega) (hgi (fun r h => h) hh) hgal q2.lentI q3.lentI q4.lentI (by omega) (by omega))) ?_
  rintro _ _ ⟨R1, rfl, hR1⟩
  obtain ⟨cs, rfl, hcs5, hcs1, hG1⟩ := (hR1.bare hb).uni
  clear hR1
  obtain ⟨er, her⟩ : ∃ er, er = errF f args mem fuel := ⟨_, rfl⟩
  rw [← her] at hG1 ⊢
  refine Ol.p mvt ?_
  refine Ol.p extv ?_
  refine Ol.p extv ?_
  refine Ol.x (alc zr_run_Result) ?_
  rintro _ _ ⟨g15, rfl, rfl⟩
  refine Ol.s (stw (vs := cs) sz_run_Result hcs5 hcs1 (i := 0) rfl rfl) ?_
  refine Ol.p asi ?_
  refine Ol.nil ?_
  refine Cd.keep (L' := blk g15 (.cells cs 46) :: (LB ++ R1)) ⟨[], by rw [List.append_nil]; exact List.perm_append_comm.cons _⟩ ?_
  refine Cd.seq ?_
  have h5' : ∀ R, (blk g15 (.cells cs 46) :: (LB ++ R))[2]? = some (blk g5 (.cells f.cells.toArray 37)) := fun R => by rw [hLB]; rfl
  refine Cd.region ?_
  refine Ol.p (ldw (cs := f.cells.toArray) ag_api_Func (i := 2) (h5' R1) rfl) ?_
  refine Ol.p mvs ?_
  refine Ol.p mvs ?_
  refine Ol.p mvs ?_
  refine Ol.p mvi ?_
  refine Ol.x (sp_call (vs := [f.val, .slice aA args.length aC, .slice mA mem.length mC, .slice nA ans.length nC, .int .i64 fuel]) (R := fun v R => ∃ w1 B1, WGo w1 B1 f args mem ans fuel v R) en_ref08_Go (fun M w' hh => Ct.mono (ref08_Go_ct (hf.now hh) hfit h43 (ha.now hh) (hm.now hh) (hn.now hh) (by omega) (by omega)) fun v L h => ⟨w', w'.heap.size, h⟩)) ?_
  rintro _ _ ⟨R2, rfl, w1, B1, hR2⟩
  obtain ⟨pb, rfl, hG2⟩ := hR2.uni
  clear hR2
  rw [← her] at hG2 ⊢
  refine Ol.p mvt ?_
  refine Ol.p extv ?_
  refine Ol.p extv ?_
  refine Ol.p asp ?_
  refine Ol.p asi ?_
  refine Ol.nil ?_
  refine Cd.seq ?_
  refine Cd.mid (fun σ' L' => Has σ' [(1, .slice aA args.length aC), (2, .slice mA mem.length mC), (3, .slice nA ans.length nC), (4, .int .i64 fuel), (5, .pointer (some ⟨g5, 0, none⟩)), (11, .pointer (some ⟨g11, 0, none⟩)), (12, .slice A50 args.length c50), (13, .slice A52 mem.length c52), (14, .slice A54 ans.length c54), (98, .bool false)] ∧ Keep L' LB) ?_ ?_
  · have h3 : (!decide (er = er)) = false := by simp
    rcases hG1 with ⟨he0, hok, hn2, z, hz, rfl, hzp⟩ | ⟨he0, rfl, rfl⟩
    · rcases hG2 with ⟨_, y, hwok, rfl, rfl⟩ | ⟨he1, _⟩
      rotate_left
      · exact absurd he0 he1
      obtain ⟨sF, hsF⟩ : ∃ sF, sF = goS f (begS f args mem ans) fuel.toNat := ⟨_, rfl⟩
      rw [← hsF] at hz hwok ⊢
      have hrun : Runs f sF fuel.toNat := by
        rw [hsF]
        have := Runs.go (Fine.of hok.1 h43) fuel.toNat (Runs.beg (args := args) (ans := ans) (f := f) (Fine.of hok.1 h43) hok.2.2)
        rwa [Nat.zero_add] at this
      have hc1 := hrun.calls
      have hm1 := hrun.mem
      refine Cd.keep (L' := blk g15 (.cells z.cells.toArray 46) :: (LB ++ (z.res ++ wL (fF0 f) (fF1 f) y sF))) (keep_count [] fun _ x => by
        have := hzp.count_eq x
        simp only [List.count_append, List.count_cons, List.count_nil, List.cons_append, List.nil_append, List.append_nil] at this ⊢
        omega) ?_
      refine Cd.region ?_
      refine Ol.p mvi ?_
      refine Ol.p mvi ?_
      refine Ol.p nei ?_
      refine Ol.p mvb ?_
      refine Ol.gp h3 mvp ?_
      refine Ol.gp h3 (nen pt_P_ref08_Run) ?_
      refine Ol.gp h3 mvb ?_
      refine Ol.gp rfl (ldw (cs := z.cells.toArray) ag_run_Result (i := 0) rfl rfl) ?_
      refine Ol.gp rfl mvp ?_
      refine Ol.gx rfl (sp_callm (vs := [.agg z.cells.toArray, .pointer (some ⟨y.gR, 0, none⟩)]) (Lin := z.res ++ wL (fF0 f) (fF1 f) y sF) (L2 := blk g15 (.cells z.cells.toArray 46) :: LB) en_law08_same (List.perm_append_comm (l₁ := blk g15 (.cells z.cells.toArray 46) :: LB)) (law08_same_cm hz hwok (by omega) (by omega) hrun.args)) ?_
      rintro _ _ ⟨_, rfl, rfl, rfl⟩
      refine Ol.gp rfl noti ?_
      refine Ol.gp h3 (pkTb rfl) ?_
      refine Ol.p (pkFb h3) ?_
      refine Ol.p mvb ?_
      refine Ol.gp rfl mvp ?_
      refine Ol.gp rfl (epn pt_P_ref08_Run) ?_
      refine Ol.gp rfl mvb ?_
      refine Ol.gn rfl ?_
      refine Ol.gn rfl ?_
      refine Ol.gn rfl ?_
      refine Ol.gn rfl ?_
      refine Ol.gn rfl ?_
      refine Ol.gn rfl ?_
      refine Ol.gn rfl ?_
      refine Ol.gp rfl (pkFb rfl) ?_
      refine Ol.p (pkFb rfl) ?_
      refine Ol.nil ?_
      exact ⟨⟨rfl, rfl, rfl, rfl, rfl, rfl, rfl, rfl, rfl, rfl, trivial⟩, Keep.tail⟩
    · rcases hG2 with ⟨he1, _⟩ | ⟨_, rfl, rfl⟩
      · exact absurd he1 he0
      refine Cd.keep (L' := blk g15 (.cells noResC 46) :: LB) (keep_count [] fun _ x => by
        simp only [List.count_append, List.count_cons, List.count_nil, List.cons_append, List.nil_append, List.append_nil]) ?_
      refine Cd.region ?_
      refine Ol.p mvi ?_
      refine Ol.p mvi ?_
      refine Ol.p nei ?_
      refine Ol.p mvb ?_
      refine Ol.gp h3 mvp ?_
      refine Ol.gp h3 (nen pt_P_ref08_Run) ?_
      refine Ol.gp h3 mvb ?_
      refine Ol.gn rfl ?_
      refine Ol.gn rfl ?_
      refine Ol.gn rfl ?_
      refine Ol.gn rfl ?_
      refine Ol.gp h3 (pkFb rfl) ?_
      refine Ol.p (pkFb h3) ?_
      refine Ol.p mvb ?_
      refine Ol.gp rfl mvp ?_
      refine Ol.gp rfl (epn pt_P_ref08_Run) ?_
      refine Ol.gp rfl mvb ?_
      refine Ol.gp rfl (fdl fd_run_Result_4) ?_
      refine Ol.gp rfl (ld one_int (Rd.blk (i := 0) rfl rfl)) ?_
      refine Ol.gp rfl (fdl fd_run_Result_3) ?_
      refine Ol.gp rfl (ld one_L_int (Rd.blk (i := 0) rfl rfl)) ?_
      refine Ol.gp rfl (lens sl_L_int) ?_
      refine Ol.gp rfl addi ?_
      refine Ol.gp rfl nei ?_
      refine Ol.gp rfl (pkTb rfl) ?_
      refine Ol.p (pkFb rfl) ?_
      refine Ol.nil ?_
      exact ⟨⟨rfl, rfl, rfl, rfl, rfl, rfl, rfl, rfl, rfl, rfl, trivial⟩, .sub (.cons _ (List.Sublist.refl _))⟩
  rintro σ' L' ⟨hs', hkp⟩
  refine Cd.keep hkp ?_
  refine Cd.has hs' ?_
  clear hs' hkp hG1 hG2
  refine Cd.cond rfl (fun h => nomatch h) (fun h => ?_)
  refine Cd.skip ?_
  refine Cd.seq ?_
  refine Cd.region ?_
  refine Ol.p (ldw (cs := g.cells.toArray) ag_api_Func (i := 0) h11 rfl) ?_
  refine Ol.p mvs ?_
  refine Ol.p mvs ?_
  refine Ol.p mvs ?_
  refine Ol.x (sp_call (vs := [g.val, .slice A50 args.length c50, .slice A52 mem.length c52, .slice A54 ans.length c54]) (R := BegR g args mem ans) en_run_Begin (fun M w' hh => by obtain ⟨q1, q2, q3, q4, _⟩ := hQ (fun r h => h) hh; exact run_Begin_ct (args := args) (mem := mem) (ans := ans) q1.fun_ (q1.fit hfc) (by rw [hgp]; omega) (hgi (fun r h => h) hh) hgal q2.lentI q3.lentI q4.lentI (by omega) (by omega))) ?_
  rintro _ _ ⟨R3, rfl, hR3⟩
  obtain ⟨pr, rfl, hB1⟩ := hR3.uni hb
  clear hR3
  obtain ⟨eb, heb⟩ : ∃ eb, eb = errB f args mem := ⟨_, rfl⟩
  rw [← heb]
  refine Ol.keep Keep.comm ?_
  refine Ol.p mvt ?_
  refine Ol.p extv ?_
  refine Ol.p extv ?_
  refine Ol.p asp ?_
  refine Ol.p asi ?_
  refine Ol.nil ?_
  refine Cd.seq ?_
  have h5r : ∀ R, (LB ++ R)[1]? = some (blk g5 (.cells f.cells.toArray 37)) := fun R => by rw [hLB]; rfl
  have h11r : ∀ R, (LB ++ R)[0]? = some (blk g11 (.cells g.cells.toArray 37)) := fun R => by rw [hLB]; rfl
  refine Cd.region ?_
  refine Ol.p (ldw (cs := f.cells.toArray) ag_api_Func (i := 1) (h5r R3) rfl) ?_
  refine Ol.p mvs ?_
  refine Ol.p mvs ?_
  refine Ol.p mvs ?_
  refine Ol.x (sp_call (vs := [f.val, .slice aA args.length aC, .slice mA mem.length mC, .slice nA ans.length nC]) (R := WBeg f args mem ans) en_ref08_Begin (fun M w' hh => ref08_Begin_ct (hf.now hh) hfit (ha.now hh) (hm.now hh) (hn.now hh) (by omega) (by omega))) ?_
  rintro _ _ ⟨R4, rfl, hR4⟩
  obtain ⟨ps, rfl, hB2⟩ := hR4.uni
  clear hR4
  rw [← heb]
  refine Ol.keep (L' := LB ++ (R3 ++ R4)) (keep_count [] fun _ x => by
    simp only [List.count_append, List.append_nil]
    omega) ?_
  refine Ol.p mvt ?_
  refine Ol.p extv ?_
  refine Ol.p extv ?_
  refine Ol.p asp ?_
  refine Ol.p asi ?_
  refine Ol.nil ?_
  obtain ⟨RR, hRR⟩ : ∃ RR, RR = R3 ++ R4 := ⟨_, rfl⟩
  rw [← hRR]
  refine Cd.seq ?_
  have hin : ∀ r ∈ LB, r ∈ LB ++ RR := fun r hr => List.mem_append_left _ hr
  refine Cd.region ?_
  refine Ol.p (ldw (cs := g.cells.toArray) ag_api_Func (i := 0) (h11r RR) rfl) ?_
  refine Ol.p (ldw (cs := f.cells.toArray) ag_api_Func (i := 1) (h5r RR) rfl) ?_
  refine Ol.s (cl (v := .bool true) en_kit_KeptFunc (fun M w' hh => kit_KeptFunc_ct hb (hQ hin hh).1 (hf.now hh) hfc hfit.c (by omega) (hbi.now hh) h40)) ?_
  refine Ol.p mvb ?_
  refine Ol.gp rfl mvs ?_
  refine Ol.gp rfl mvs ?_
  refine Ol.gs rfl (cl (v := .bool true) (vs := [.slice A50 args.length c50, .slice aA args.length aC]) en_kit_KeptInts (fun M w' hh => by obtain ⟨_, q2, _, _, c2, _⟩ := hQ hin hh; exact kit_KeptInts_ct q2 c2 (ha.now hh) (by omega))) ?_
  refine Ol.p (pkTb rfl) ?_
  refine Ol.p mvb ?_
  refine Ol.gp rfl mvs ?_
  refine Ol.gp rfl mvs ?_
  refine Ol.gs rfl (cl (v := .bool true) (vs := [.slice A52 mem.length c52, .slice mA mem.length mC]) en_kit_KeptInts (fun M w' hh => by obtain ⟨_, _, q3, _, _, c3, _⟩ := hQ hin hh; exact kit_KeptInts_ct q3 c3 (hm.now hh) (by omega))) ?_
  refine Ol.p (pkTb rfl) ?_
  refine Ol.p mvb ?_
  refine Ol.gp rfl mvs ?_
  refine Ol.gp rfl mvs ?_
  refine Ol.gs rfl (cl (v := .bool true) (vs := [.slice A54 ans.length c54, .slice nA ans.length nC]) en_kit_KeptInts (fun M w' hh => by obtain ⟨_, _, _, q4, _, _, c4⟩ := hQ hin hh; exact kit_KeptInts_ct q4 c4 (hn.now hh) (by omega))) ?_
  refine Ol.p (pkTb rfl) ?_
  refine Ol.p asb ?_
  refine Ol.nil ?_
  refine Cd.fact (p := FunCap g ∧ c52 < 2 ^ 63 ∧ c54 < 2 ^ 63) (fun M w' hh => ?_) fun ⟨hcap, hc52, hc54⟩ => ?_
  · have hmm : ∀ r ∈ LQ, r ∈ LB ++ RR := fun r hr => hin r (by rw [hLB]; exact List.mem_cons_of_mem _ (List.mem_cons_of_mem _ hr))
    have key : ∀ {A : Option Addr} {c : Nat} {l : List Int}, lInt A c l ∈ LQ → c < 2 ^ 63 := fun {A c l} hm => cap_top (hh.has (lInt A c l) (List.mem_append_right _ (hmm _ hm)))
    exact ⟨FunCap.own hh (fun r hr => hmm r (by rw [hLQ]; exact List.mem_cons_of_mem _ (List.mem_cons_of_mem _ (List.mem_cons_of_mem _ hr)))), key (A := A52) (l := mem) (by rw [hLQ]; simp), key (A := A54) (l := ans) (by rw [hLQ]; simp)⟩
  have hbl39 : g.blocks.length < 2 ^ 39 := by
    have h1 := s8_len g.blocks
    have h0 : g.params.length + blocksSz g.blocks ≤ 700 := sz_bare8 hb hsz
    omega
  have hgall : ∀ b ∈ g.blocks, b.ins.length < 2 ^ 39 ∧ b.iC < 2 ^ 63 ∧ ∀ i ∈ b.ins, i.args.length < 2 ^ 39 ∧ i.aC < 2 ^ 63 := fun b hbm => by
    have h0 : g.params.length + blocksSz g.blocks ≤ 700 := sz_bare8 hb hsz
    have h1 := s8_blk hbm
    have h2 := s8_alen (sz_bare8 hb hsz) b hbm
    refine ⟨by unfold bsz at h1; omega, (hcap.i b hbm).1, fun i hi => ⟨?_, (hcap.i b hbm).2 i hi⟩⟩
    have := h2 i hi
    omega
  refine Cd.keep (L' := blk g11 (.cells g.cells.toArray 37) :: (funLent g ++ (lInt A52 c52 mem :: lInt A54 c54 ans :: RR))) (keep_count [blk g5 (.cells f.cells.toArray 37), lInt A50 c50 args] fun _ x => by
    rw [hLB, hLQ]
    simp only [List.count_append, List.count_cons, List.count_nil, List.cons_append, List.nil_append, List.append_nil]
    omega) ?_
  refine Cd.seq ?_
  refine Cd.region ?_
  refine Ol.p (ldw (cs := g.cells.toArray) ag_api_Func (i := 0) rfl rfl) ?_
  refine Ol.x (sp_callm (vs := [g.val]) (Lin := funLent g) (L2 := blk g11 (.cells g.cells.toArray 37) :: lInt A52 c52 mem :: lInt A54 c54 ans :: RR) en_kit_OverFunc List.perm_middle.symm (kit_OverFunc_cm (by rw [hgp]; omega) hcap.p hbl39 hcap.b hgall)) ?_
  rintro _ _ ⟨_, rfl, rfl, rfl⟩
  refine Ol.nil ?_
  refine Cd.seq ?_
  refine Cd.region ?_
  refine Ol.p mvs ?_
  refine Ol.x (sp_callm (vs := [.slice A52 mem.length c52]) (Lin := [lInt A52 c52 mem]) (L2 := blk g11 (.cells g.cells.toArray 37) :: lInt A54 c54 ans :: RR) en_kit_OverInts (List.Perm.swap _ _ _) (kit_OverInts_cm (by omega) hc52)) ?_
  rintro _ _ ⟨_, rfl, rfl, rfl⟩
  refine Ol.nil ?_
  refine Cd.seq ?_
  refine Cd.region ?_
  refine Ol.p mvs ?_
  refine Ol.x (sp_callm (vs := [.slice A54 ans.length c54]) (Lin := [lInt A54 c54 ans]) (L2 := blk g11 (.cells g.cells.toArray 37) :: RR) en_kit_OverInts (List.Perm.swap _ _ _) (kit_OverInts_cm (by omega) hc54)) ?_
  rintro _ _ ⟨_, rfl, rfl, rfl⟩
  refine Ol.nil ?_
  refine Cd.keep (L' := RR) (.sub (.cons _ (List.Sublist.refl _))) ?_
  have h3 : (!decide (eb = eb)) = false := by simp
  rcases hB1 with ⟨hok, y1, hgb, hrok, rfl, rfl⟩ | ⟨hno, rfl, rfl⟩
  rotate_left
  · rcases hB2 with ⟨hok, _⟩ | ⟨_, rfl, rfl⟩
    · exact absurd hok hno
    refine Cd.seq ?_
    refine Cd.seq ?_
    refine Cd.region ?_
    refine Ol.p mvi ?_
    refine Ol.p mvi ?_
    refine Ol.p nei ?_
    refine Ol.p mvb ?_
    refine Ol.gp h3 mvb ?_
    refine Ol.gp h3 noti ?_
    refine Ol.p (pkFb h3) ?_
    refine Ol.p mvb ?_
    refine Ol.gp rfl mvp ?_
    refine Ol.gp rfl (epn pt_P_run_Run) ?_
    refine Ol.gp rfl mvp ?_
    refine Ol.gp rfl (epn pt_P_ref08_Run) ?_
    refine Ol.gp rfl (neb bo_bool) ?_
    refine Ol.p (pkFb rfl) ?_
    refine Ol.nil ?_
    refine Cd.cond rfl (fun h => ?_) (fun h => ?_)   -- $152
    · exact absurd h (by simp)
    refine Cd.skip ?_
    refine Cd.seq ?_
    refine Cd.seq ?_
    refine Cd.region ?_
    refine Ol.p asi ?_
    refine Ol.nil ?_
    refine Cd.block ?_   -- 0
    refine Cd.loop (fun m σ L => m = 0 ∧ Has σ [(4, .int .i64 fuel), (21, .pointer none), (24, .int .i64 0)]) (n := 0) ⟨rfl, ⟨rfl, rfl, rfl, trivial⟩⟩ ?_
    rintro _ σ L ⟨rfl, hs⟩
    refine Cd.has hs ?_
    refine Cd.seq ?_
    refine Cd.seq ?_
    cases h4 : decide ((0 : Int) < (if 60 < fuel then 60 else fuel)) with
    | true =>
      refine Cd.region ?_
      refine Ol.p mvi ?_
      refine Ol.p mvi ?_
      refine Ol.p mini ?_
      refine Ol.p lsi ?_
      refine Ol.p mvb ?_
      refine Ol.gp h4 mvp ?_
      refine Ol.gp h4 (nen pt_P_ref08_Run) ?_
      refine Ol.p (pkTb h4) ?_
      refine Ol.nil ?_
      refine Cd.cond rfl (fun h => nomatch h) (fun h => ?_)   -- $160
      refine Cd.exit (id := 0) ?_
      refine Cd.seq ?_
      refine Cd.region ?_
      refine Ol.s (cl (v := .bool true) en_law08_awake (fun M w' hh => law08_awake_ct)) ?_
      refine Ol.p asb ?_
      refine Ol.nil ?_
      exact Cd.ret ⟨.bool true, ret1 rfl rfl, [], Keep.nil, rfl, rfl⟩
    | false =>
      refine Cd.region ?_
      refine Ol.p mvi ?_
      refine Ol.p mvi ?_
      refine Ol.p mini ?_
      refine Ol.p lsi ?_
      refine Ol.p mvb ?_
      refine Ol.gn h4 ?_
      refine Ol.gn h4 ?_
      refine Ol.p (pkFb h4) ?_
      refine Ol.nil ?_
      refine Cd.cond rfl (fun h => nomatch h) (fun h => ?_)   -- $160
      refine Cd.exit (id := 0) ?_
      refine Cd.seq ?_
      refine Cd.region ?_
      refine Ol.s (cl (v := .bool true) en_law08_awake (fun M w' hh => law08_awake_ct)) ?_
      refine Ol.p asb ?_
      refine Ol.nil ?_
      exact Cd.ret ⟨.bool true, ret1 rfl rfl, [], Keep.nil, rfl, rfl⟩
  rcases hB2 with ⟨_, y2, hwok, rfl, rfl⟩ | ⟨hno, _⟩
  rotate_left
  · exact absurd hok hno
  obtain ⟨s0, hs0⟩ : ∃ s0, s0 = begS f args mem ans := ⟨_, rfl⟩
  have hR8 : Right8 f := Right8.of hok.1 h43
  have hrun0 : Runs f s0 0 := by rw [hs0]; exact Runs.beg hR8.fine hok.2.2
  have hk80 : Keeps8 s0 := by rw [hs0]; exact Keeps8.beg hR8.par
  have hbl50 : f.blocks.length < 2 ^ 50 := hfit.blen
  rw [← hs0] at hrok hwok hRR
  rw [hRR]
  refine Cd.seq ?_
  refine Cd.seq ?_
  refine Cd.region ?_
  refine Ol.p mvi ?_
  refine Ol.p mvi ?_
  refine Ol.p nei ?_
  refine Ol.p mvb ?_
  refine Ol.gp h3 mvb ?_
  refine Ol.gp h3 noti ?_
  refine Ol.p (pkFb h3) ?_
  refine Ol.p mvb ?_
  refine Ol.gp rfl mvp ?_
  refine Ol.gp rfl (epn pt_P_run_Run) ?_
  refine Ol.gp rfl mvp ?_
  refine Ol.gp rfl (epn pt_P_ref08_Run) ?_
  refine Ol.gp rfl (neb bo_bool) ?_
  refine Ol.p (pkFb rfl) ?_
  refine Ol.nil ?_
  refine Cd.cond rfl (fun h => ?_) (fun h => ?_)   -- $152
  · exact absurd h (by simp)
  refine Cd.skip ?_
  refine Cd.seq ?_
  refine Cd.seq ?_
  refine Cd.region ?_
  refine Ol.p asi ?_
  refine Ol.nil ?_
  refine Cd.block ?_   -- 0
  obtain ⟨N, hN⟩ : ∃ N : Nat, N = (if 60 < fuel then 60 else fuel).toNat := ⟨_, rfl⟩
  have hN60 : N ≤ 60 := by
    rw [hN]
    split <;> omega
  refine Cd.loop (fun m σ L => ∃ (k : Nat) (z1 z2 : RLay) (s : RSt), m = N - k ∧ k ≤ N ∧ z1.g.bare = f.bare ∧ RunOk w w.heap.size z1 s ∧ WOk w w.heap.size z2 s ∧ Runs f s k ∧ Keeps8 s ∧ Has σ [(4, .int .i64 fuel), (19, .pointer (some ⟨z1.gR, 0, none⟩)), (21, .pointer (some ⟨z2.gR, 0, none⟩)), (24, .int .i64 k)] ∧ runL z1 s ++ wL (fF0 f) (fF1 f) z2 s = L) (n := N) ⟨0, y1, y2, s0, rfl, Nat.zero_le _, hgb, hrok _ _, hwok _ _, hrun0, hk80, ⟨rfl, rfl, rfl, rfl, trivial⟩, rfl⟩ ?_
  rintro _ σ L ⟨k, z1, z2, s, rfl, hk, hz1, hr1, hw1, hrun, hk8, hs, rfl⟩
  refine Cd.has hs ?_
  clear hs
  refine Cd.seq ?_
  refine Cd.seq ?_
  cases h4 : decide ((k : Int) < (if 60 < fuel then 60 else fuel)) with
  | false =>
    refine Cd.region ?_
    refine Ol.p mvi ?_
    refine Ol.p mvi ?_
    refine Ol.p mini ?_
    refine Ol.p lsi ?_
    refine Ol.p mvb ?_
    refine Ol.gn h4 ?_
    refine Ol.gn h4 ?_
    refine Ol.p (pkFb h4) ?_
    refine Ol.nil ?_
    refine Cd.cond rfl (fun h => nomatch h) (fun h => ?_)   -- $160
    refine Cd.exit (id := 0) ?_
    refine Cd.seq ?_
    refine Cd.region ?_
    refine Ol.s (cl (v := .bool true) en_law08_awake (fun M w' hh => law08_awake_ct)) ?_
    refine Ol.p asb ?_
    refine Ol.nil ?_
    exact Cd.ret ⟨.bool true, ret1 rfl rfl, [], Keep.nil, rfl, rfl⟩
  | true =>
    have hkN : k < N := by
      have := of_decide_eq_true h4
      rw [hN]
      omega
    refine Cd.region ?_
    refine Ol.p mvi ?_
    refine Ol.p mvi ?_
    refine Ol.p mini ?_
    refine Ol.p lsi ?_
    refine Ol.p mvb ?_
    refine Ol.gp h4 mvp ?_
    refine Ol.gp h4 (nen pt_P_ref08_Run) ?_
    refine Ol.p (pkTb h4) ?_
    refine Ol.nil ?_
    refine Cd.cond rfl (fun h => ?_) (fun h => nomatch h)   -- $160
    refine Cd.skip ?_
    refine Cd.seq ?_
    refine Cd.block ?_   -- 1
    refine Cd.seq ?_
    refine Cd.seq ?_
    obtain ⟨s1, hs1⟩ : ∃ s1, s1 = goS f s 1 := ⟨_, rfl⟩
    have hst1 := run_Step_any hR8.fine hz1 hrun hr1 (by omega)
    have hst2 := ref08_Step_any (F0 := fF0 f) hf hR8 hrun hk8 hbl50 hw1 (by omega)
    have hrun1 : Runs f s1 (k + 1) := by rw [hs1]; exact hrun.one hR8.fine
    have hk81 : Keeps8 s1 := by rw [hs1]; exact hk8.go hR8 hrun
    rw [← hs1] at hst1 hst2
    have hc1 := hrun1.calls
    have hm1 := hrun1.mem
    have h5 : (!decide (decide (s.e = 0) = decide (s.e = 0))) = false := by simp
    refine Cd.region ?_
    refine Ol.p mvp ?_
    refine Ol.x (sp_callm (vs := [.pointer (some ⟨z1.gR, 0, none⟩)]) (Lin := runL z1 s) (L2 := wL (fF0 f) (fF1 f) z2 s) (R := RunTo w w.heap.size z1 s1 (.bool (decide (s.e = 0)))) en_P_run_Run_Step (.refl _) hst1) ?_
    rintro _ _ ⟨_, rfl, rfl, x1, hg1, hgg1, hx1, rfl⟩
    refine Ol.keep Keep.comm ?_
    refine Ol.p mvp ?_
    refine Ol.x (sp_callm (vs := [.pointer (some ⟨z2.gR, 0, none⟩)]) (Lin := wL (fF0 f) (fF1 f) z2 s) (L2 := runL x1 s1) (R := WTo w w.heap.size (fF0 f) (fF1 f) z2 s1 (.bool (decide (s.e = 0)))) en_P_ref08_Run_Step (.refl _) hst2) ?_
    rintro _ _ ⟨_, rfl, rfl, x2, hg2, hx2, rfl⟩
    refine Ol.keep Keep.comm ?_
    refine Ol.p (neb bo_bool) ?_
    refine Ol.p mvb ?_
    refine Ol.gp h5 mvp ?_
    refine Ol.gp h5 mvp ?_
    refine Ol.gx h5 (sp_callm (vs := [.pointer (some ⟨z1.gR, 0, none⟩), .pointer (some ⟨z2.gR, 0, none⟩)]) (Lin := runL x1 s1 ++ wL (fF0 f) (fF1 f) x2 s1) (L2 := []) en_law08_stands (by rw [List.append_nil]) (by rw [← hg1, ← hg2]; exact law08_stands_cm hx1 hk81)) ?_
    rintro _ _ ⟨_, rfl, rfl, rfl⟩
    refine Ol.gp h5 noti ?_
    refine Ol.p (pkFb h5) ?_
    refine Ol.nil ?_
    rw [List.append_nil]
    refine Cd.cond rfl (fun h => nomatch h) (fun h => ?_)   -- $173
    refine Cd.skip ?_
    refine Cd.seq ?_
    refine Cd.region ?_
    refine Ol.p mvp ?_
    refine Ol.x (sp_callm (vs := [.pointer (some ⟨z1.gR, 0, none⟩)]) (Lin := runL x1 s1) (L2 := wL (fF0 f) (fF1 f) x2 s1) (R := fun v L => ∃ z : RRes, z.of s1 ∧ v = .agg z.cells.toArray ∧ L.Perm (z.res ++ runL x1 s1)) en_P_run_Run_Result (.refl _) (by rw [← hg1]; exact run_Result_cm hx1 (by omega) (by omega) (fun r hr => hrun1.args (r.callee, r.args) (by rw [hx1.calls]; exact List.mem_map_of_mem hr)))) ?_
    rintro _ _ ⟨T, rfl, z, hz, rfl, hT⟩
    refine Ol.keep (L' := (z.res ++ wL (fF0 f) (fF1 f) x2 s1) ++ runL x1 s1) (keep_count [] fun _ x => by
      have := hT.count_eq x
      simp only [List.count_append, List.append_nil] at this ⊢
      omega) ?_
    refine Ol.x (alc zr_run_Result) ?_
    rintro _ _ ⟨g25, rfl, rfl⟩
    refine Ol.s (stw (vs := z.cells.toArray) sz_run_Result rfl z.one (i := 0) rfl rfl) ?_
    refine Ol.nil ?_
    refine Cd.seq ?_
    refine Cd.seq ?_
    refine Cd.region ?_
    refine Ol.p (ldw (cs := z.cells.toArray) ag_run_Result (i := 0) rfl rfl) ?_
    refine Ol.p mvp ?_
    refine Ol.x (sp_callm (vs := [.agg z.cells.toArray, .pointer (some ⟨z2.gR, 0, none⟩)]) (Lin := z.res ++ wL (fF0 f) (fF1 f) x2 s1) (L2 := blk g25 (.cells z.cells.toArray 46) :: runL x1 s1) en_law08_same List.perm_middle.symm (by rw [← hg2]; exact law08_same_cm hz hx2 (by omega) (by omega) hrun1.args)) ?_
    rintro _ _ ⟨_, rfl, rfl, rfl⟩
    refine Ol.p noti ?_
    refine Ol.nil ?_
    refine Cd.cond rfl (fun h => nomatch h) (fun h => ?_)   -- $179
    refine Cd.skip ?_
    refine Cd.fact (p := z.mC < 2 ^ 63) (fun M w' hh => cap_top (hh.has (row (.slice z.mA z.mem.length z.mC) 3 1 z.mem.length (ints z.mem)) (List.mem_append_right _ (List.mem_append_left _ (List.mem_append_left _ (List.mem_cons_of_mem _ (List.mem_cons_self ..))))))) fun hmc => ?_
    refine Cd.keep (L' := blk g25 (.cells z.cells.toArray 46) :: row (.slice z.mA z.mem.length z.mC) 3 1 z.mem.length (ints z.mem) :: (runL x1 s1 ++ wL (fF0 f) (fF1 f) x2 s1)) (keep_count (row (.slice z.cA z.recs.length z.cC) 106 2 z.recs.length (z.recs.flatMap CRec.cells) :: z.recs.map callRes) fun _ x => by
      unfold RRes.res
      simp only [List.count_append, List.count_cons, List.count_nil, List.cons_append, List.nil_append, List.append_nil]
      omega) ?_
    refine Cd.region ?_
    refine Ol.p (fdl fd_run_Result_3) ?_
    refine Ol.p (ld (v := .slice z.mA z.mem.length z.mC) one_L_int (Rd.blk (i := 0) (k := 3) rfl rfl)) ?_
    refine Ol.x (sp_callm (vs := [.slice z.mA z.mem.length z.mC]) (Lin := [row (.slice z.mA z.mem.length z.mC) 3 1 z.mem.length (ints z.mem)]) (L2 := blk g25 (.cells z.cells.toArray 46) :: (runL x1 s1 ++ wL (fF0 f) (fF1 f) x2 s1)) en_kit_OverInts (List.Perm.swap _ _ _) (kit_OverInts_cm (by rw [hz.2.2.1]; omega) hmc)) ?_
    rintro _ _ ⟨_, rfl, rfl, rfl⟩
    refine Ol.nil ?_
    refine Cd.keep (L' := runL x1 s1 ++ wL (fF0 f) (fF1 f) x2 s1) (.sub (.cons _ (List.Sublist.refl _))) ?_
    refine Cd.region ?_
    refine Ol.p mvi ?_
    refine Ol.p addi ?_
    refine Ol.p asi ?_
    refine Ol.nil ?_
    exact ⟨N - (k + 1), by omega, k + 1, x1, x2, s1, rfl, by omega, by rw [hgg1]; exact hz1, hx1, hx2, hrun1, hk81, ⟨rfl, by rw [hg1]; rfl, by rw [hg2]; rfl, rfl, trivial⟩, rfl⟩
end
end Go.Proofs.YtjenaenakopicaaGreat

/- The law 08: of no run, walked. -/
namespace Go.Proofs.YtjenaenakopicaaGreat
set_option linter.unusedVariables false
set_option linter.unusedSimpArgs false
open Go Go.RowKit
set_option maxRecDepth 100000
def runZ : Array Value := #[.map none, .int .i64 0, .int .i64 0, .int .i64 0, .int .i64 0, .slice none 0 0, .slice none 0 0, .slice none 0 0, .slice none 0 0, .slice none 0 0, .int .i64 0]
section
variable {P : Program} {w0 : World} {B : Nat} {σ : Env} {L : List Res} {d : Option Nat} {ty T : TypeId} {pos : String} {af : Array Edge} {gd : Option (Nat × Bool)} {x y : Operand}
theorem lk0 {n : Int} {zv : Value} (hT : MpT P T zv) (hx : ev σ x = .map none := by exact rfl) (hy : ev σ y = .int .i64 n := by exact rfl) : Sd P w0 B ⟨d, .lookup T x y true, ty, pos, af, gd⟩ σ L (.tuple #[zv, .bool false]) := sp_read fun M w hh => by
  obtain ⟨k, e, h1, h2, h3⟩ := hT
  have hck := run_checkKey_int (P := P) (b := true) (n := n) h2 w
  obtain ⟨r, hr, hc⟩ := findNow_int n [] 0 (fun e he => absurd he List.not_mem_nil)
  have hf := run_findKey_int (P := P) h2 hr w
  rcases hc with ⟨rfl, hn⟩ | ⟨j, e', rfl, _, _, h3', _⟩
  · simp [execOp, hx, hy, Instr.lookup, Sem.run_bind, run_underlying h1, Result.andThen_ok, Sem.run_pure, hck, hf, run_zero h3]
  · simp [mget] at h3'
end
section
theorem run_Result_no_cm {w0 : World} {B g : Nat} {p : Option Addr} (hp : p = none ∨ p = some ⟨g, 0, none⟩) : Cm Tryz.prog 27 #[.pointer p] w0 B [blk g (.cells runZ 93)] (fun v L => v = .agg noResC ∧ L = [blk g (.cells runZ 93)]) := by
  refine Cm.mk Tryz.func27 rfl rfl fun M => ?_
  refine Cd.seq ?_
  refine Cd.region ?_
  refine Ol.x (alc zr_run_Result) ?_
  rintro _ _ ⟨g2, rfl, rfl⟩
  refine Ol.nil ?_
  refine Cd.seq ?_
  refine Cd.mid (fun σ' L' => Has σ' [(2, .pointer (some ⟨g2, 0, none⟩)), (13, .bool true)] ∧ [blk g2 (.cells noResC 46), blk g (.cells runZ 93)] = L') ?_ ?_
  · rcases hp with rfl | rfl
    · skip
      refine Cd.region ?_
      refine Ol.p mvp ?_
      refine Ol.p (epn pt_P_run_Run) ?_
      refine Ol.p mvb ?_
      refine Ol.gn rfl ?_
      refine Ol.gn rfl ?_
      refine Ol.gn rfl ?_
      refine Ol.gn rfl ?_
      refine Ol.gn rfl ?_
      refine Ol.p (pkTb rfl) ?_
      refine Ol.nil ?_
      exact ⟨⟨rfl, rfl, trivial⟩, rfl⟩
    · skip
      refine Cd.region ?_
      refine Ol.p mvp ?_
      refine Ol.p (epn pt_P_run_Run) ?_
      refine Ol.p mvb ?_
      refine Ol.gp rfl mvp ?_
      refine Ol.gp rfl nlc ?_
      refine Ol.gp rfl (fdl fd_run_Run_0) ?_
      refine Ol.gp rfl (ld (v := .map none) one_run_vars (Rd.blk (i := 1) rfl rfl)) ?_
      refine Ol.gp rfl (emn mp_run_vars) ?_
      refine Ol.p (pkFb rfl) ?_
      refine Ol.nil ?_
      exact ⟨⟨rfl, rfl, trivial⟩, rfl⟩
  rintro σ' _ ⟨hs', rfl⟩
  refine Cd.has hs' ?_
  refine Cd.cond rfl (fun h => ?_) (fun h => nomatch h)
  refine Cd.seq ?_
  refine Cd.region ?_
  refine Ol.p (ldw (cs := noResC) ag_run_Result (i := 0) rfl rfl) ?_
  refine Ol.s (stw (vs := noResC) sz_run_Result rfl (by intro u hu; simp [noResC] at hu; rcases hu with rfl | rfl | rfl <;> rfl) (i := 0) rfl rfl) ?_
  refine Ol.nil ?_
  exact Cd.ret ⟨.agg noResC, retc rfl ag_run_Result rfl (i := 0) rfl rfl, _, .sub (.cons _ (List.Sublist.refl _)), rfl, rfl⟩
theorem run_Var_no_cm {w0 : World} {B g : Nat} {p : Option Addr} {v : Int} (hp : p = none ∨ p = some ⟨g, 0, none⟩) : Cm Tryz.prog 67 #[.pointer p, .int .i64 v] w0 B [blk g (.cells runZ 93)] (fun u L => u = .tuple #[.int .i64 0, .bool false] ∧ L = [blk g (.cells runZ 93)]) := by
  refine Cm.mk Tryz.func67 rfl rfl fun M => ?_
  refine Cd.seq ?_
  refine Cd.region ?_
  refine Ol.p asi ?_
  refine Ol.p asb ?_
  refine Ol.nil ?_
  refine Cd.seq ?_
  refine Cd.seq ?_
  rcases hp with rfl | rfl
  · skip
    refine Cd.region ?_
    refine Ol.p mvp ?_
    refine Ol.p (epn pt_P_run_Run) ?_
    refine Ol.nil ?_
    refine Cd.cond rfl (fun h => ?_) (fun h => nomatch h)   -- $9
    refine Cd.seq ?_
    refine Cd.region ?_
    refine Ol.p asi ?_
    refine Ol.p asb ?_
    refine Ol.nil ?_
    exact Cd.ret ⟨.tuple #[.int .i64 0, .bool false], ret2 rfl rfl rfl, _, .all, rfl, rfl⟩
  · skip
    refine Cd.region ?_
    refine Ol.p mvp ?_
    refine Ol.p (epn pt_P_run_Run) ?_
    refine Ol.nil ?_
    refine Cd.cond rfl (fun h => nomatch h) (fun h => ?_)   -- $9
    refine Cd.skip ?_
    refine Cd.seq ?_
    refine Cd.region ?_
    refine Ol.p mvp ?_
    refine Ol.p nlc ?_
    refine Ol.p (fdl fd_run_Run_0) ?_
    refine Ol.p (ld (v := .map none) one_run_vars (Rd.blk (i := 0) rfl rfl)) ?_
    refine Ol.p mvi ?_
    refine Ol.p (lk0 mt_run_vars) ?_
    refine Ol.p mvt ?_
    refine Ol.p extv ?_
    refine Ol.p extv ?_
    refine Ol.p asi ?_
    refine Ol.p asb ?_
    refine Ol.nil ?_
    refine Cd.seq ?_
    refine Cd.region ?_
    refine Ol.p mvi ?_
    refine Ol.p mvb ?_
    refine Ol.p asi ?_
    refine Ol.p asb ?_
    refine Ol.nil ?_
    exact Cd.ret ⟨.tuple #[.int .i64 0, .bool false], ret2 rfl rfl rfl, _, .all, rfl, rfl⟩
theorem run_At_no_cm {w0 : World} {B g : Nat} {p : Option Addr} (hp : p = none ∨ p = some ⟨g, 0, none⟩) : Cm Tryz.prog 66 #[.pointer p] w0 B [blk g (.cells runZ 93)] (fun u L => u = .tuple #[.int .i64 0, .int .i64 0] ∧ L = [blk g (.cells runZ 93)]) := by
  refine Cm.mk Tryz.func66 rfl rfl fun M => ?_
  refine Cd.seq ?_
  refine Cd.region ?_
  refine Ol.p asi ?_
  refine Ol.p asi ?_
  refine Ol.nil ?_
  refine Cd.seq ?_
  refine Cd.seq ?_
  rcases hp with rfl | rfl
  · skip
    refine Cd.region ?_
    refine Ol.p mvp ?_
    refine Ol.p (epn pt_P_run_Run) ?_
    refine Ol.nil ?_
    refine Cd.cond rfl (fun h => ?_) (fun h => nomatch h)   -- $5
    refine Cd.seq ?_
    refine Cd.region ?_
    refine Ol.p asi ?_
    refine Ol.p asi ?_
    refine Ol.nil ?_
    exact Cd.ret ⟨.tuple #[.int .i64 0, .int .i64 0], ret2 rfl rfl rfl, _, .all, rfl, rfl⟩
  · skip
    refine Cd.region ?_
    refine Ol.p mvp ?_
    refine Ol.p (epn pt_P_run_Run) ?_
    refine Ol.nil ?_
    refine Cd.cond rfl (fun h => nomatch h) (fun h => ?_)   -- $5
    refine Cd.skip ?_
    refine Cd.seq ?_
    refine Cd.draw mixed 12 (fun _ => none) (fun _ => []) (by kernel_rfl) (fun _ _ h => by cases h) (fun u hu => ?_)
    refine Wk.p mvp ?_
    refine Wk.p nlc ?_
    refine Wk.p (fdl fd_run_Run_1) ?_
    refine Wk.p (fdl fd_run_spot_0) ?_
    refine Wk.p (ld (v := .int .i64 0) one_int (Rd.blk (i := 0) rfl rfl)) ?_
    refine Wk.p mvp ?_
    refine Wk.p nlc ?_
    refine Wk.p (fdl fd_run_Run_1) ?_
    refine Wk.p (fdl fd_run_spot_1) ?_
    refine Wk.p (ld (v := .int .i64 0) one_int (Rd.blk (i := 0) rfl rfl)) ?_
    refine Wk.p asi ?_
    refine Wk.p asi ?_
    refine Wk.nil ?_
    refine Ol.nil ?_
    exact Cd.ret ⟨.tuple #[.int .i64 0, .int .i64 0], ret2 rfl rfl rfl, _, .all, rfl, rfl⟩
theorem run_Step_no_cm {w0 : World} {B g : Nat} {p : Option Addr} (hp : p = none ∨ p = some ⟨g, 0, none⟩) : Cm Tryz.prog 24 #[.pointer p] w0 B [blk g (.cells runZ 93)] (fun u L => u = .bool false ∧ L = [blk g (.cells runZ 93)]) := by
  refine Cm.mk Tryz.func24 rfl rfl fun M => ?_
  refine Cd.seq ?_
  refine Cd.region ?_
  refine Ol.p asb ?_
  refine Ol.nil ?_
  refine Cd.seq ?_
  refine Cd.mid (fun σ' L' => Has σ' [(23, .bool true)] ∧ [blk g (.cells runZ 93)] = L') ?_ ?_
  · rcases hp with rfl | rfl
    · skip
      refine Cd.region ?_
      refine Ol.p mvp ?_
      refine Ol.p (epn pt_P_run_Run) ?_
      refine Ol.p mvb ?_
      refine Ol.gn rfl ?_
      refine Ol.gn rfl ?_
      refine Ol.gn rfl ?_
      refine Ol.gn rfl ?_
      refine Ol.gn rfl ?_
      refine Ol.p (pkTb rfl) ?_
      refine Ol.p mvb ?_
      refine Ol.gn rfl ?_
      refine Ol.gn rfl ?_
      refine Ol.gn rfl ?_
      refine Ol.gn rfl ?_
      refine Ol.gn rfl ?_
      refine Ol.gn rfl ?_
      refine Ol.p (pkTb rfl) ?_
      refine Ol.nil ?_
      exact ⟨⟨rfl, trivial⟩, rfl⟩
    · skip
      refine Cd.region ?_
      refine Ol.p mvp ?_
      refine Ol.p (epn pt_P_run_Run) ?_
      refine Ol.p mvb ?_
      refine Ol.gp rfl mvp ?_
      refine Ol.gp rfl nlc ?_
      refine Ol.gp rfl (fdl fd_run_Run_0) ?_
      refine Ol.gp rfl (ld (v := .map none) one_run_vars (Rd.blk (i := 0) rfl rfl)) ?_
      refine Ol.gp rfl (emn mp_run_vars) ?_
      refine Ol.p (pkFb rfl) ?_
      refine Ol.p mvb ?_
      refine Ol.gn rfl ?_
      refine Ol.gn rfl ?_
      refine Ol.gn rfl ?_
      refine Ol.gn rfl ?_
      refine Ol.gn rfl ?_
      refine Ol.gn rfl ?_
      refine Ol.p (pkTb rfl) ?_
      refine Ol.nil ?_
      exact ⟨⟨rfl, trivial⟩, rfl⟩
  rintro σ' _ ⟨hs', rfl⟩
  refine Cd.has hs' ?_
  refine Cd.cond rfl (fun h => ?_) (fun h => nomatch h)
  refine Cd.seq ?_
  refine Cd.region ?_
  refine Ol.p asb ?_
  refine Ol.nil ?_
  exact Cd.ret ⟨.bool false, ret1 rfl rfl, _, .all, rfl, rfl⟩
set_option maxHeartbeats 2000000 in
theorem law08_none_ct {w : World} : Ct Tryz.prog 29 #[] w (Is (.bool true)) := by
  refine Ct.mk Tryz.func29 rfl rfl ?_
  refine Cd.seq ?_
  refine Cd.region ?_
  refine Ol.p asb ?_
  refine Ol.nil ?_
  refine Cd.seq ?_
  refine Cd.region ?_
  refine Ol.p (bds (cs := runZ) bs_run_Run zr_run_Run (hf := by kernel_rfl)) ?_
  refine Ol.x bxg ?_
  rintro _ _ ⟨gz, rfl, rfl⟩
  refine Ol.x (bsv [.pointer none, .pointer (some ⟨gz, 0, none⟩)] sl_L_P_run_Run zr_P_run_Run (by simp [Value.cells])) ?_
  rintro _ _ ⟨gl, rfl, rfl⟩
  refine Ol.p ass ?_
  refine Ol.nil ?_
  refine Cd.seq ?_
  refine Cd.seq ?_
  refine Cd.region ?_
  refine Ol.p asi ?_
  refine Ol.nil ?_
  refine Cd.block ?_
  refine Cd.loop (fun m σ L => ∃ k : Nat, m = 2 - k ∧ k ≤ 2 ∧ Has σ [(1, .slice (some ⟨gl, 0, none⟩) 2 2), (2, .int .i64 k)] ∧ [row (.slice (some ⟨gl, 0, none⟩) 2 2) 54 1 2 [.pointer none, .pointer (some ⟨gz, 0, none⟩)], blk gz (.cells runZ 93)] = L) (n := 2) ⟨0, rfl, Nat.zero_le _, ⟨rfl, rfl, trivial⟩, rfl⟩ ?_
  rintro _ σ L ⟨k, rfl, hk, hs, rfl⟩
  refine Cd.has hs ?_
  clear hs
  refine Cd.seq ?_
  refine Cd.seq ?_
  refine Cd.region ?_
  refine Ol.p mvi ?_
  refine Ol.p lsi ?_
  refine Ol.nil ?_
  refine Cd.cond rfl (fun h => ?_) (fun h => ?_)
  · have hlt : k < 2 := by
      simp only [decide_eq_true_eq] at h; omega
    obtain ⟨p, hp, hpk⟩ : ∃ p : Option Addr, (p = none ∨ p = some ⟨gz, 0, none⟩) ∧ ([.pointer none, .pointer (some ⟨gz, 0, none⟩)] : List Value)[k]? = some (.pointer p) := by
      have : k = 0 ∨ k = 1 := by omega
      rcases this with rfl | rfl
      · exact ⟨none, .inl rfl, rfl⟩
      · exact ⟨_, .inr rfl, rfl⟩
    refine Cd.skip ?_
    refine Cd.seq ?_
    refine Cd.block ?_
    refine Cd.seq ?_
    refine Cd.region ?_
    refine Ol.p mvs ?_
    refine Ol.p mvi ?_
    refine Ol.p (ixn1 (ix := k) sl_L_P_run_Run (Som.row (i := 0) rfl (by omega))) ?_
    refine Ol.p (ld (v := .pointer p) one_P_run_Run (Rd.row (i := 0) rfl hpk)) ?_
    refine Ol.x (sp_callm (vs := [.pointer p]) (Lin := [blk gz (.cells runZ 93)]) (L2 := [row (.slice (some ⟨gl, 0, none⟩) 2 2) 54 1 2 [.pointer none, .pointer (some ⟨gz, 0, none⟩)]]) en_P_run_Run_Result (List.Perm.swap _ _ _) (run_Result_no_cm hp)) ?_
    rintro _ _ ⟨_, rfl, rfl, rfl⟩
    refine Ol.x (alc zr_run_Result) ?_
    rintro _ _ ⟨g3, rfl, rfl⟩
    refine Ol.s (stw (vs := noResC) sz_run_Result rfl (by intro u hu; simp [noResC] at hu; rcases hu with rfl | rfl | rfl <;> rfl) (i := 0) rfl rfl) ?_
    refine Ol.nil ?_
    refine Cd.seq ?_
    refine Cd.region ?_
    refine Ol.p mvs ?_
    refine Ol.p mvi ?_
    refine Ol.p (ixn1 (ix := k) sl_L_P_run_Run (Som.row (i := 2) rfl (by omega))) ?_
    refine Ol.p (ld (v := .pointer p) one_P_run_Run (Rd.row (i := 2) rfl hpk)) ?_
    refine Ol.x (sp_callm (vs := [.pointer p, .int .i64 1]) (Lin := [blk gz (.cells runZ 93)]) (L2 := [blk g3 (.cells noResC 46), row (.slice (some ⟨gl, 0, none⟩) 2 2) 54 1 2 [.pointer none, .pointer (some ⟨gz, 0, none⟩)]]) en_P_run_Run_Var (List.Perm.swap _ _ _) (run_Var_no_cm hp)) ?_
    rintro _ _ ⟨_, rfl, rfl, rfl⟩
    refine Ol.p mvt ?_
    refine Ol.p extv ?_
    refine Ol.p extv ?_
    refine Ol.p asi ?_
    refine Ol.p asb ?_
    refine Ol.nil ?_
    refine Cd.seq ?_
    refine Cd.region ?_
    refine Ol.p mvs ?_
    refine Ol.p mvi ?_
    refine Ol.p (ixn1 (ix := k) sl_L_P_run_Run (Som.row (i := 2) rfl (by omega))) ?_
    refine Ol.p (ld (v := .pointer p) one_P_run_Run (Rd.row (i := 2) rfl hpk)) ?_
    refine Ol.x (sp_callm (vs := [.pointer p]) (Lin := [blk gz (.cells runZ 93)]) (L2 := [blk g3 (.cells noResC 46), row (.slice (some ⟨gl, 0, none⟩) 2 2) 54 1 2 [.pointer none, .pointer (some ⟨gz, 0, none⟩)]]) en_P_run_Run_At (.refl _) (run_At_no_cm hp)) ?_
    rintro _ _ ⟨_, rfl, rfl, rfl⟩
    refine Ol.p mvt ?_
    refine Ol.p extv ?_
    refine Ol.p extv ?_
    refine Ol.p asi ?_
    refine Ol.p asi ?_
    refine Ol.nil ?_
    refine Cd.seq ?_
    refine Cd.region ?_
    refine Ol.p mvs ?_
    refine Ol.p mvi ?_
    refine Ol.p (ixn1 (ix := k) sl_L_P_run_Run (Som.row (i := 2) rfl (by omega))) ?_
    refine Ol.p (ld (v := .pointer p) one_P_run_Run (Rd.row (i := 2) rfl hpk)) ?_
    refine Ol.x (sp_callm (vs := [.pointer p]) (Lin := [blk gz (.cells runZ 93)]) (L2 := [blk g3 (.cells noResC 46), row (.slice (some ⟨gl, 0, none⟩) 2 2) 54 1 2 [.pointer none, .pointer (some ⟨gz, 0, none⟩)]]) en_P_run_Run_Step (.refl _) (run_Step_no_cm hp)) ?_
    rintro _ _ ⟨_, rfl, rfl, rfl⟩
    refine Ol.p mvb ?_
    refine Ol.gp rfl (fdl fd_run_Result_0) ?_
    refine Ol.gp rfl (ld one_api_EndKind (Rd.blk (i := 1) rfl rfl)) ?_
    refine Ol.gp rfl nei ?_
    refine Ol.p (pkFb rfl) ?_
    refine Ol.p mvb ?_
    refine Ol.gp rfl (fdl fd_run_Result_4) ?_
    refine Ol.gp rfl (ld one_int (Rd.blk (i := 1) rfl rfl)) ?_
    refine Ol.gp rfl (fdl fd_run_Result_2) ?_
    refine Ol.gp rfl (ld one_L_api_Call (Rd.blk (i := 1) rfl rfl)) ?_
    refine Ol.gp rfl (lens sl_L_api_Call) ?_
    refine Ol.gp rfl addi ?_
    refine Ol.gp rfl (fdl fd_run_Result_3) ?_
    refine Ol.gp rfl (ld one_L_int (Rd.blk (i := 1) rfl rfl)) ?_
    refine Ol.gp rfl (lens sl_L_int) ?_
    refine Ol.gp rfl addi ?_
    refine Ol.gp rfl (fdl fd_run_Result_1) ?_
    refine Ol.gp rfl (ld one_int (Rd.blk (i := 1) rfl rfl)) ?_
    refine Ol.gp rfl addi ?_
    refine Ol.gp rfl mvi ?_
    refine Ol.gp rfl addi ?_
    refine Ol.gp rfl mvi ?_
    refine Ol.gp rfl addi ?_
    refine Ol.gp rfl mvi ?_
    refine Ol.gp rfl addi ?_
    refine Ol.gp rfl nei ?_
    refine Ol.p (pkFb rfl) ?_
    refine Ol.p mvb ?_
    refine Ol.gp rfl mvb ?_
    refine Ol.p (pkFb rfl) ?_
    refine Ol.nil ?_
    refine Cd.cond rfl (fun h => nomatch h) (fun h => ?_)
    refine Cd.skip ?_
    refine Cd.keep (L' := [row (.slice (some ⟨gl, 0, none⟩) 2 2) 54 1 2 [.pointer none, .pointer (some ⟨gz, 0, none⟩)], blk gz (.cells runZ 93)]) (keep_count [blk g3 (.cells noResC 46)] fun _ x => by
      simp only [List.count_append, List.count_cons, List.count_nil, List.cons_append, List.nil_append, List.append_nil]
      omega) ?_
    refine Cd.region ?_
    refine Ol.p mvi ?_
    refine Ol.p addi ?_
    refine Ol.p asi ?_
    refine Ol.nil ?_
    exact ⟨2 - (k + 1), by omega, k + 1, rfl, by omega, ⟨rfl, rfl, trivial⟩, rfl⟩
  refine Cd.exit (id := 0) ?_
  refine Cd.seq ?_
  refine Cd.region ?_
  refine Ol.p asb ?_
  refine Ol.nil ?_
  exact Cd.ret ⟨.bool true, ret1 rfl rfl, [], Keep.nil, rfl, rfl⟩
end
end Go.Proofs.YtjenaenakopicaaGreat

