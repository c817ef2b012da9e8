/- The package flow: the order of blocks, walked. -/
import Derived.Test.YtbcnejobnmljlaaFlow3
import Derived.Test.YtbcnejobnmljlaaDfs
namespace Go.Proofs.Ytbcnejobnmljlaa
set_option linter.unusedVariables false
open Go Go.RowKit
set_option maxRecDepth 100000

theorem foldl_snoc {α β : Type} {f : β → α → β} {l : List α} {k : Nat} {x : α} {a : β} (h : l[k]? = some x) : (l.take (k + 1)).foldl f a = f ((l.take k).foldl f a) x := by
  rw [take_snoc_ h, List.foldl_append]; rfl
section
/-- What the walk in depth owns, and turns. -/
def LL (f : RFun) (gG gF gT gN gO gr : Nat) (st : Dst) : List Res :=
  [blk gG (.cells (enc st.1) 75), blk gF (.cells f.cells.toArray 25), blk gT (.cells #[.func (.func 32) #[] #[.pointer (some ⟨gG, 0, none⟩), .pointer (some ⟨gF, 0, none⟩), .pointer (some ⟨gT, 0, none⟩), .pointer (some ⟨gN, 0, none⟩), .pointer (some ⟨gO, 0, none⟩)]] 76),
   blk gN (.cells #[.int .i64 ((f.blocks.length - st.2.length : Nat) : Int)] 3), blk gO (.cells #[.slice (some ⟨gr, 0, none⟩) f.blocks.length f.blocks.length] 22), blk gr (.cells (outC f.blocks.length st.2) 3)]
/-- What is kept on the way. -/
structure Inv (n d : Nat) (st : Dst) : Prop where
  sm : Sm st.1
  len : st.2.length + d ≤ card st.1 n
set_option maxHeartbeats 1000000 in
theorem flow_Order_1_cm {w0 : World} {B : Nat} {f : RFun} {gG gF gT gN gO gr : Nat} (hf : FunAt w0 B f) (hfit : Fit f) (hcl : closed f.terms = true) : ∀ (fuel : Nat) (st : Dst) (d b : Nat), f.blocks.length - card st.1 f.blocks.length < fuel → Inv f.blocks.length d st → b < f.blocks.length →
    Cm Try.prog 32 #[.int .i64 (b : Int), .pointer (some ⟨gG, 0, none⟩), .pointer (some ⟨gF, 0, none⟩), .pointer (some ⟨gT, 0, none⟩), .pointer (some ⟨gN, 0, none⟩), .pointer (some ⟨gO, 0, none⟩)] w0 B (LL f gG gF gT gN gO gr st)
      (fun v L => v = .tuple #[] ∧ L = LL f gG gF gT gN gO gr (dfs f.terms fuel b st) ∧ Inv f.blocks.length d (dfs f.terms fuel b st) ∧ Sub st.1 (dfs f.terms fuel b st).1) := by
  have htl : f.terms.length = f.blocks.length := by simp [RFun.terms]
  obtain ⟨hpos, hmax, hedge⟩ := closed_len hcl
  rw [htl] at hpos hmax
  intro fuel
  induction fuel with
  | zero => intro st d b h; omega
  | succ fuel ih =>
    intro st d b hfuel hinv hb
    obtain ⟨bl, hbl⟩ : ∃ x, f.blocks[b]? = some x := ⟨_, List.getElem?_eq_getElem hb⟩
    have hbm := List.mem_of_getElem? hbl
    have ht : f.terms[b]? = some bl.term := by simp [RFun.terms, hbl]
    have hcard := card_le st.1 f.blocks.length
    refine Cm.mk Try.func32 rfl rfl fun M => ?_
    unfold LL
    refine Cd.seq ?_
    refine Cd.seq ?_
    refine Cd.region ?_
    refine Ol.p (ldw ag_bits_Set (i := 0) rfl (enc_size _)) ?_
    refine Ol.p mvi ?_
    refine Ol.s (cl en_bits_Set_Has (fun M w' hh => bits_Set_Has_ct (s := st.1) (n := (b : Int)) (by unfold I64; omega))) ?_
    refine Ol.nil ?_
    have hok : okN (b : Int) = true := by rw [okN_iff]; omega
    have hmb : memb st.1 (b : Int) = st.1.testBit b := by unfold memb; rw [hok]; rfl
    rw [hmb]
    refine Cd.cond rfl (fun h => ?_) (fun h => ?_)
    · have e : dfs f.terms (fuel + 1) b st = st := by simp only [dfs, h, cond_true]
      rw [e]
      exact Cd.ret ⟨_, ret0 rfl, _, .all, rfl, rfl, hinv, Sub.refl _⟩
    refine Cd.skip ?_
    obtain ⟨s1, hs1⟩ : ∃ s1, s1 = withL st.1 [(b : Int)] := ⟨_, rfl⟩
    have hsm1 : Sm s1 := by rw [hs1]; exact withL_sm hinv.sm
    have hgrow : card st.1 f.blocks.length < card s1 f.blocks.length := by rw [hs1]; exact card_with1 hb (by omega) h
    have hcard1 := card_le s1 f.blocks.length
    obtain ⟨to, hto⟩ : ∃ to, to = toL bl.term := ⟨_, rfl⟩
    have htoL : to.length ≤ 2 := by rw [hto]; exact toL_len _
    obtain ⟨go, hgo⟩ : ∃ go : Nat → Dst, go = fun j => (to.take j).foldl (fun st t => dfs f.terms fuel t.toNat st) (s1, st.2) := ⟨_, rfl⟩
    have e : dfs f.terms (fuel + 1) b st = ((go to.length).1, b :: (go to.length).2) := by
      simp only [dfs, h, cond_false, toAt_some ht, hgo, List.take_length, hs1, hto]
    rw [e]
    refine Cd.seq ?_
    refine Cd.region ?_
    refine Ol.p (ldw ag_bits_Set (i := 0) rfl (enc_size _)) ?_
    refine Ol.p mvi ?_
    refine Ol.x (bsv [.int .i64 (b : Int)] sl_L_int zr_int (by simp [Value.cells])) ?_
    rintro _ _ ⟨g14, rfl, rfl⟩
    refine Ol.s (cl en_bits_Set_With (fun M w' hh => bits_Set_With_ct (s := st.1) (l := [(b : Int)]) (Reads.row hh (i := 0) rfl) (by intro n hn; simp at hn; subst hn; unfold I64; omega) (by simp))) ?_
    refine Ol.s (stw sz_bits_Set (enc_size _) (encF_one _) (i := 1) rfl (enc_size _)) ?_
    refine Ol.keep (.sub (.cons _ (List.Sublist.refl _))) ?_
    refine Ol.nil ?_
    rw [← hs1]
    refine Cd.seq ?_
    refine Cd.seq ?_
    refine Cd.region ?_
    refine Ol.p (fdl fd_api_Func_1) ?_
    refine Ol.p (ld one_L_api_Block (Rd.blk (i := 1) rfl rfl)) ?_
    refine Ol.p mvi ?_
    refine Ol.p (ixn sl_L_api_Block (Som.slc hf.blocks (by omega))) ?_
    refine Ol.p (fdp fd_api_Block_1) ?_
    refine Ol.p (lds (es := bl.term.cells) ag_api_Term hf.blocks rfl (fun q u hu => by rw [Nat.add_assoc, hf.cell hbl (j := 1 + q) (by have := (List.getElem?_eq_some_iff.1 hu).1; simp [Tm.cells] at this; omega), Nat.add_comm]; simpa [RBlk.cells] using hu)) ?_
    refine Ol.x (sp_call en_ir_To (fun M' w' hh => ir_To_ct (t := bl.term))) ?_
    rintro _ _ ⟨_, rfl, A, c, rfl, rfl⟩
    refine Ol.p (lens sl_L_int) ?_
    refine Ol.p mvi ?_
    refine Ol.nil ?_
    rw [← hto]
    refine Cd.block ?_
    refine Cd.loop (fun m σ L => ∃ j, m = to.length - j ∧ j ≤ to.length ∧ Has σ [(0, .int .i64 (b : Int)), (3, .pointer (some ⟨gT, 0, none⟩)), (4, .pointer (some ⟨gN, 0, none⟩)), (5, .pointer (some ⟨gO, 0, none⟩)), (22, .slice A to.length c), (23, .int .i64 to.length), (24, .int .i64 j)] ∧ L = [row (.slice A to.length c) 3 1 to.length (ints to)] ++ LL f gG gF gT gN gO gr (go j) ∧ Inv f.blocks.length (d + 1) (go j) ∧ Sub s1 (go j).1) (n := to.length) ⟨0, rfl, Nat.zero_le _, ⟨rfl, rfl, rfl, rfl, rfl, rfl, rfl, trivial⟩, by rw [hgo]; rfl, by rw [hgo]; exact ⟨hsm1, by have := hinv.len; show st.2.length + (d + 1) ≤ card s1 f.blocks.length; omega⟩, by rw [hgo]; exact Sub.refl _⟩ ?_
    rintro _ σ L ⟨j, rfl, hj, hs, rfl, hinv1, hsub1⟩
    refine Cd.has hs ?_
    refine Cd.seq ?_
    refine Cd.region ?_
    refine Ol.p lsi ?_
    refine Ol.nil ?_
    refine Cd.seq ?_
    refine Cd.cond rfl (fun h => ?_) (fun h => ?_)
    · have hjl : j < to.length := by simpa using h
      have hget := ints_get hjl
      have hte : (⟨(b : Int), (j : Int), to[j]⟩ : Ed) ∈ edges f.terms := mem_edges.2 ⟨b, j, bl.term, ht, by rw [← hto]; exact List.getElem?_eq_getElem hjl, rfl, rfl⟩
      have hrng := hedge _ hte
      rw [htl] at hrng
      obtain ⟨q, hq⟩ : ∃ q : Nat, to[j] = (q : Int) := ⟨to[j].toNat, by have : 0 ≤ to[j] := hrng.1; omega⟩
      have hqb : q < f.blocks.length := by have : to[j] < (f.blocks.length : Int) := hrng.2; rw [hq] at this; omega
      have hgo1 : go (j + 1) = dfs f.terms fuel q (go j) := by
        rw [hgo]
        show (to.take (j + 1)).foldl _ _ = _
        rw [foldl_snoc (List.getElem?_eq_getElem hjl), hq]; rfl
      have hfuel1 : f.blocks.length - card (go j).1 f.blocks.length < fuel := by have := card_mono (n := f.blocks.length) hsub1; omega
      rw [hq] at hget
      refine Cd.skip ?_
      refine Cd.seq ?_
      refine Cd.block ?_
      refine Cd.seq ?_
      refine Cd.region ?_
      refine Ol.p (ixn1 sl_L_int (Som.row (i := 0) rfl (by omega))) ?_
      refine Ol.p (ld one_int (Rd.row (i := 0) rfl hget)) ?_
      refine Ol.p asi ?_
      refine Ol.nil ?_
      refine Cd.region ?_
      refine Ol.p (ldv one_func_int (i := 3) rfl) ?_
      refine Ol.p mvi ?_
      refine Ol.x (sp_callvw (vs := [.int .i64 (q : Int)]) (L2 := [row (.slice A to.length c) 3 1 to.length (ints to)]) en_flow_Order_1 (ih (go j) (d + 1) q hfuel1 hinv1 hqb) List.perm_append_comm) ?_
      rintro _ _ ⟨_, rfl, rfl, rfl, hinv2, hsub2⟩
      refine Ol.keep Keep.comm ?_
      refine Ol.nil ?_
      refine Cd.region ?_
      refine Ol.p addi ?_
      refine Ol.p mvi ?_
      refine Ol.nil ?_
      rw [← hgo1] at hinv2 hsub2 ⊢
      exact ⟨to.length - (j + 1), by omega, j + 1, rfl, by omega, ⟨rfl, rfl, rfl, rfl, rfl, rfl, rfl, trivial⟩, rfl, hinv2, hsub1.trans hsub2⟩
    · have hje : j = to.length := by
        have : ¬ (j : Int) < to.length := by simpa using h
        omega
      subst hje
      have hl := hinv1.len
      have hcg := card_le (go to.length).1 f.blocks.length
      refine Cd.keep (L' := LL f gG gF gT gN gO gr (go to.length)) (.sub (.cons _ (List.Sublist.refl _))) ?_
      unfold LL
      refine Cd.exit (id := 0) ?_
      refine Cd.seq ?_
      refine Cd.region ?_
      refine Ol.p (ldv one_int (i := 3) rfl) ?_
      refine Ol.p subi ?_
      refine Ol.s (stv (v := .int .i64 ((f.blocks.length - ((go to.length).2.length + 1) : Nat) : Int)) sz_int (i := 3) rfl (by show Value.int .i64 _ = Value.int .i64 _; congr 1; omega)) ?_
      refine Ol.nil ?_
      refine Cd.region ?_
      refine Ol.p (ldv one_L_int (i := 4) rfl) ?_
      refine Ol.p (ldv one_int (i := 3) rfl) ?_
      refine Ol.p mvi ?_
      refine Ol.p (ixo1 (ix := f.blocks.length - ((go to.length).2.length + 1)) sl_L_int) ?_
      refine Ol.s (sto (k := f.blocks.length - ((go to.length).2.length + 1)) (v := .int .i64 (b : Int)) (.inr sz_int) rfl rfl (i := 5) rfl (by rw [outC_size (by omega)]; omega) rfl) ?_
      refine Ol.nil ?_
      refine ⟨_, ret0 rfl, _, .all, rfl, ?_, ⟨hinv1.sm, ?_⟩, ?_⟩
      · rw [← outC_cons (by omega)]
        rfl
      · show ((go to.length).2.length + 1) + d ≤ card (go to.length).1 f.blocks.length
        omega
      · rw [hs1] at hsub1
        exact (sub_with1 _ _).trans hsub1
set_option maxHeartbeats 1000000 in
/-- The same, its room not less than its length. -/
def PartQ (e n : Nat) (xs : List Value) : Value → List Res → Prop := fun v L => (n = 0 ∧ xs = [] ∧ v = .slice none 0 0 ∧ L = []) ∨ ∃ g k c cs, v = .slice (some ⟨g, k, none⟩) n c ∧ L = [blk g (.cells cs e)] ∧ xs.length = n ∧ n ≤ c ∧ ∀ j u, xs[j]? = some u → cs[k + j]? = some u
theorem PartQ.part {e n : Nat} {xs : List Value} {v : Value} {L : List Res} (h : PartQ e n xs v L) : PartL e n xs v L := by
  rcases h with h | ⟨g, k, c, cs, h1, h2, h3, _, h4⟩
  · exact .inl h
  · exact .inr ⟨g, k, c, cs, h1, h2, h3, h4⟩
theorem flow_Order_ct2 {w : World} {f : RFun} (hf : FunAt w w.heap.size f) (hfit : Fit f) : Ct Try.prog 26 #[f.val] w (PartQ 3 (orderF f.terms).length (intsN (orderF f.terms))) := by
  have hbl := hfit.blen
  have htl : f.terms.length = f.blocks.length := by simp [RFun.terms]
  refine Ct.mk Try.func26 rfl rfl ?_
  refine Cd.seq ?_
  refine Cd.region ?_
  refine Ol.x bxg ?_
  rintro _ _ ⟨g1, rfl, rfl⟩
  refine Ol.p ass ?_
  refine Ol.nil ?_
  refine Cd.seq ?_
  refine Cd.seq ?_
  refine Cd.region ?_
  refine Ol.p (ldw ag_api_Func (i := 0) rfl rfl) ?_
  refine Ol.s (cl en_flow_Closed (fun M w' hh => flow_Closed_ct (hf.now hh) hfit)) ?_
  refine Ol.p noti ?_
  refine Ol.nil ?_
  refine Cd.cond rfl (fun h => ?_) (fun h => ?_)
  · have hcl : closed f.terms = false := by simpa using h
    have e : orderF f.terms = [] := by unfold orderF; rw [hcl]; rfl
    rw [e]
    refine Cd.seq ?_
    refine Cd.region ?_
    refine Ol.p ass ?_
    refine Ol.nil ?_
    exact Cd.ret ⟨.slice none 0 0, ret1 rfl rfl, [], .nil, .inl ⟨rfl, rfl, rfl, rfl⟩⟩
  have hcl : closed f.terms = true := by simpa using h
  obtain ⟨hpos, hmax, hedge⟩ := closed_len hcl
  rw [htl] at hpos hmax
  obtain ⟨st, hst⟩ : ∃ st, st = dfs f.terms (f.blocks.length + 1) 0 (0, []) := ⟨_, rfl⟩
  have eo : orderF f.terms = st.2 := by unfold orderF; rw [hcl, htl, hst]; rfl
  have hlen1 : 0 < st.2.length := by
    rw [hst]
    simp [dfs]
  rw [eo]
  refine Cd.skip ?_
  refine Cd.seq ?_
  refine Cd.region ?_
  refine Ol.x (alc zr_bits_Set) ?_
  rintro _ _ ⟨g3, rfl, rfl⟩
  refine Ol.nil ?_
  refine Cd.seq ?_
  refine Cd.region ?_
  refine Ol.p (fdl fd_api_Func_1) ?_
  refine Ol.p (ld one_L_api_Block (Rd.blk (i := 1) rfl rfl)) ?_
  refine Ol.p (lens sl_L_api_Block) ?_
  refine Ol.x (mks sl_L_int zr_int) ?_
  rintro _ _ ⟨gr, rfl, rfl⟩
  refine Ol.unrow fun cs hcs hcx => ?_
  have hcs' : cs = outC f.blocks.length [] := outC_nil _ hcs hcx
  rw [hcs']
  refine Ol.x (alc zr_L_int) ?_
  rintro _ _ ⟨g4, rfl, rfl⟩
  refine Ol.s (stv sz_L_int (i := 0) rfl rfl) ?_
  refine Ol.nil ?_
  refine Cd.seq ?_
  refine Cd.region ?_
  refine Ol.p (ldv one_L_int (i := 0) rfl) ?_
  refine Ol.p (lens sl_L_int) ?_
  refine Ol.x (alc zr_int) ?_
  rintro _ _ ⟨g5, rfl, rfl⟩
  refine Ol.s (stv sz_int (i := 0) rfl rfl) ?_
  refine Ol.nil ?_
  refine Cd.seq ?_
  refine Cd.region ?_
  refine Ol.x (alc zr_func_int) ?_
  rintro _ _ ⟨g6, rfl, rfl⟩
  refine Ol.nil ?_
  refine Cd.seq ?_
  refine Cd.region ?_
  refine Ol.p mkf ?_
  refine Ol.s (stv sz_func_int (i := 0) rfl rfl) ?_
  refine Ol.nil ?_
  refine Cd.seq ?_
  refine Cd.region ?_
  refine Ol.p (ldv one_func_int (i := 0) rfl) ?_
  refine Ol.x (sp_callvw (vs := [.int .i64 ((0 : Nat) : Int)]) (L2 := []) en_flow_Order_1 (flow_Order_1_cm (gG := g3) (gF := g1) (gT := g6) (gN := g5) (gO := g4) (gr := gr) hf hfit hcl (f.blocks.length + 1) (0, []) 0 0 (by omega) ⟨zero_sm, by simp⟩ hpos) (by rw [List.append_nil]; unfold LL; rw [enc0]; exact List.perm_append_comm (l₁ := [_, _, _, _]) (l₂ := [_, _])) (hargs := rfl)) ?_
  rintro _ _ ⟨_, rfl, rfl, rfl, hinv, _⟩
  refine Ol.nil ?_
  rw [← hst] at hinv ⊢
  have hl := hinv.len
  have hcg := card_le st.1 f.blocks.length
  unfold LL
  refine Cd.seq ?_
  refine Cd.region ?_
  refine Ol.p (ldv one_L_int (i := 4) rfl) ?_
  refine Ol.p (ldv one_int (i := 3) rfl) ?_
  refine Ol.p (slo (n := f.blocks.length) (c := f.blocks.length) sl_L_int (l := f.blocks.length - st.2.length) (by omega) (by omega)) ?_
  refine Ol.p ass ?_
  refine Ol.nil ?_
  rw [show f.blocks.length - (f.blocks.length - st.2.length) = st.2.length by omega]
  refine Cd.ret ⟨.slice _ _ _, ret1 rfl rfl, _, .sub (.cons _ (.cons _ (.cons _ (.cons _ (.cons _ (.cons_cons _ .slnil)))))), .inr ⟨gr, _, _, _, rfl, rfl, by simp [intsN], Nat.le_refl _, fun j u hu => ?_⟩⟩
  unfold outC
  rw [Nat.zero_add, Nat.mul_one]
  simp only [List.getElem?_toArray]
  rw [List.getElem?_append_right (by simp)]
  simpa using hu
theorem flow_Order_ct {w : World} {f : RFun} (hf : FunAt w w.heap.size f) (hfit : Fit f) : Ct Try.prog 26 #[f.val] w (PartL 3 (orderF f.terms).length (intsN (orderF f.terms))) :=
  (flow_Order_ct2 hf hfit).mono fun _ _ h => h.part
end
end Go.Proofs.Ytbcnejobnmljlaa
