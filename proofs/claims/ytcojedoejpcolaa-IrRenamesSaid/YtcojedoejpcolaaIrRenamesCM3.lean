/- Part 3 of the proof of IrRenamesC: the texts Flow, IrW, IrX, Que, IrR, IrU, IrT, Bare, Perm, IrVars, Count, Pick, Law03, Ren, Own, one behind the other. -/
import Derived.ArgAppend
import Derived.Test.YtcojedoejpcolaaIrRenamesCM2
/- The package flow: edges, walked. -/
namespace Go.Proofs.Ytcojedoejpcolaa
set_option linter.unusedVariables false
open Go Go.RowKit
set_option maxRecDepth 100000

theorem RBlk.one (b : RBlk) : ∀ u ∈ b.cells, u.oneCell' = true := by
  intro u hu
  simp only [RBlk.cells, Tm.cells, List.mem_cons, List.not_mem_nil, or_false] at hu
  rcases hu with rfl | rfl | rfl | rfl | rfl <;> rfl
theorem Ed.one (e : Ed) : ∀ u ∈ e.cells, u.oneCell' = true := by
  intro u hu
  simp only [Ed.cells, List.mem_cons, List.not_mem_nil, or_false] at hu
  rcases hu with rfl | rfl | rfl <;> rfl
theorem Ed.one1 (e : Ed) : ∀ u ∈ [e.val].flatMap (fun v => v.cells.toList), u.oneCell' = true := by
  intro u hu
  have hu : u ∈ e.cells := by simpa [Ed.val, Value.cells] using hu
  exact e.one u hu
theorem edV_one (l : List Ed) : ∀ u ∈ edV l, u.oneCell' = true := by
  intro u hu
  simp only [edV, List.mem_flatMap] at hu
  obtain ⟨e, _, h⟩ := hu
  exact e.one u h
def ysE (ts : List Tm) : List (List Value) := (edges ts).map fun e => [e.val]
theorem ysE_get {ts : List Tm} {k : Nat} {vs : List Value} (h : (ysE ts)[k]? = some vs) : ∃ e, (edges ts)[k]? = some e ∧ vs = [e.val] ∧ k < (edges ts).length := by
  unfold ysE at h
  rw [List.getElem?_map] at h
  cases hn : (edges ts)[k]? with
  | none => rw [hn] at h; cases h
  | some e => rw [hn] at h; cases h; exact ⟨e, rfl, rfl, (List.getElem?_eq_some_iff.1 hn).1⟩
theorem ysE_len (ts : List Tm) : (ysE ts).length = (edges ts).length := by simp [ysE]
theorem ysE_one {ts : List Tm} : ∀ vs ∈ ysE ts, vs.length = 1 := by
  intro vs hvs
  unfold ysE at hvs
  rw [List.mem_map] at hvs
  obtain ⟨e, _, rfl⟩ := hvs
  rfl
section
def FEachV (g : Nat) : Value := .func (.func 147) #[] #[.pointer (some ⟨g, 0, none⟩)]
theorem flow_each_ct {w : World} {f : RFun} : Ct Try.prog 106 #[f.val] w (fun v L => ∃ g, v = FEachV g ∧ L = [blk g (.cells f.cells.toArray 43)]) := by
  refine Ct.mk Try.func106 rfl rfl ?_
  refine Cd.seq ?_
  refine Cd.region ?_
  refine Ol.x bxg ?_
  rintro _ _ ⟨g1, rfl, rfl⟩
  refine Ol.p (as_ rfl) ?_
  refine Ol.nil ?_
  refine Cd.seq ?_
  refine Cd.region ?_
  refine Ol.p mkf ?_
  refine Ol.p asf ?_
  refine Ol.nil ?_
  refine Cd.ret ⟨_, ret1 rfl rfl, _, .all, g1, rfl, rfl⟩
set_option maxHeartbeats 1000000 in
theorem flow_each_1_it {w0 : World} {B g : Nat} {f : RFun} (hf : FunAt w0 B f) (hfit : Fit f) : It Try.prog w0 B 147 #[.pointer (some ⟨g, 0, none⟩)] [blk g (.cells f.cells.toArray 43)] (ysE f.terms) := by
  intro y J Jx L0 hY h0
  have hbl := hfit.blen
  have htl : f.terms.length = f.blocks.length := by simp [RFun.terms]
  refine Cm.mk Try.func147 rfl rfl fun M => ?_
  have hret : ∀ {e : Exit} {σ : Env} {Lj D : List Res}, (e = .ret ∨ e = .normal) → (J (ysE f.terms).length Lj ∨ ∃ k, Jx k Lj) → Out ⟨Try.prog, 33, none, w0, B, M⟩ Try.f147 (fun _ L => ∃ Own' Lj, L = Own' ++ Lj ∧ (J (ysE f.terms).length Lj ∨ ∃ k, Jx k Lj)) e σ (D ++ Lj) := fun {e σ Lj D} he h => by
    rcases he with rfl | rfl <;> exact ⟨_, ret0 rfl, _, .all, D, Lj, rfl, h⟩
  refine Cd.seq ?_
  refine Cd.region ?_
  refine Ol.p (fdl fd_api_Func_1) ?_
  refine Ol.p (ld one_L_api_Block (Rd.blk (i := 0) rfl rfl)) ?_
  refine Ol.p (lens sl_L_api_Block) ?_
  refine Ol.p mvi ?_
  refine Ol.nil ?_
  refine Cd.block ?_
  refine Cd.loop (fun m σ L => ∃ k Lj, m = f.blocks.length - k ∧ k ≤ f.blocks.length ∧ Has σ [(0, .func (.yield y) #[] #[]), (8, .slice f.bA f.blocks.length f.bC), (9, .int .i64 f.blocks.length), (10, .int .i64 k)] ∧ L = blk g (.cells f.cells.toArray 43) :: Lj ∧ J (edgesTo f.terms k).length Lj) (n := f.blocks.length) ⟨0, L0, rfl, Nat.zero_le _, ⟨rfl, rfl, rfl, rfl, trivial⟩, rfl, h0⟩ ?_
  rintro _ σ L ⟨k, Lj, rfl, hk, hs, rfl, hJ⟩
  refine Cd.has hs ?_
  refine Cd.seq ?_
  refine Cd.region ?_
  refine Ol.p lsi ?_
  refine Ol.nil ?_
  refine Cd.seq ?_
  refine Cd.cond rfl (fun h => ?_) (fun h => ?_)
  · have hlt : k < f.blocks.length := by simpa using h
    obtain ⟨b, hb⟩ : ∃ b, f.blocks[k]? = some b := ⟨_, List.getElem?_eq_getElem hlt⟩
    have ht : f.terms[k]? = some b.term := by simp [RFun.terms, hb]
    refine Cd.skip ?_
    refine Cd.mid (fun σ' L' => ∃ Lj', Has σ' [(0, .func (.yield y) #[] #[]), (8, .slice f.bA f.blocks.length f.bC), (9, .int .i64 f.blocks.length), (10, .int .i64 k)] ∧ L' = blk g (.cells f.cells.toArray 43) :: Lj' ∧ J (edgesTo f.terms (k + 1)).length Lj') ?_ ?_
    · refine Cd.block ?_
      refine Cd.seq ?_
      refine Cd.region ?_
      refine Ol.p mvi ?_
      refine Ol.p (ixn sl_L_api_Block (Som.slc hf.blocks (by omega))) ?_
      refine Ol.p (lds ag_api_Block hf.blocks b.len (fun j u hu => by rw [hf.cell hb (List.getElem?_eq_some_iff.1 hu).1]; exact hu)) ?_
      refine Ol.x (alc zr_api_Block) ?_
      rintro _ _ ⟨g4, rfl, rfl⟩
      refine Ol.p asi ?_
      refine Ol.s (stw sz_api_Block rfl b.one (i := 0) rfl rfl) ?_
      refine Ol.nil ?_
      refine Cd.seq ?_
      refine Cd.region ?_
      refine Ol.p (fdl fd_api_Block_1) ?_
      refine Ol.p (ldp (k := 0 + 1) (vs := b.term.cells.toArray) ag_api_Term (i := 0) rfl rfl (fun j u hu => by rw [Nat.zero_add, Nat.add_comm]; simpa [RBlk.cells] using hu)) ?_
      refine Ol.x (sp_call en_ir_To (fun M' w' hh => ir_To_ct (t := b.term))) ?_
      rintro _ _ ⟨_, rfl, A, c, rfl, rfl⟩
      refine Ol.p (lens sl_L_int) ?_
      refine Ol.p mvi ?_
      refine Ol.nil ?_
      obtain ⟨to, hto⟩ : ∃ to, to = toL b.term := ⟨_, rfl⟩
      have htoL := toL_len b.term
      rw [← hto] at htoL ⊢
      refine Cd.block ?_
      refine Cd.loop (fun m σ L => ∃ j Lj, m = to.length - j ∧ j ≤ to.length ∧ Has σ [(0, .func (.yield y) #[] #[]), (3, .int .i64 k), (8, .slice f.bA f.blocks.length f.bC), (9, .int .i64 f.blocks.length), (10, .int .i64 k), (17, .slice A to.length c), (18, .int .i64 to.length), (19, .int .i64 j)] ∧ L = [row (.slice A to.length c) 3 1 to.length (ints to), blk g4 (.cells b.cells.toArray 50), blk g (.cells f.cells.toArray 43)] ++ Lj ∧ J ((edgesTo f.terms k).length + j) Lj) (n := to.length) ⟨0, Lj, rfl, Nat.zero_le _, ⟨rfl, rfl, rfl, rfl, rfl, rfl, rfl, rfl, trivial⟩, rfl, hJ⟩ ?_
      rintro _ σ L ⟨j, Lj, rfl, hj, hs, rfl, hJ⟩
      refine Cd.has hs ?_
      refine Cd.seq ?_
      refine Cd.region ?_
      refine Ol.p lsi ?_
      refine Ol.nil ?_
      refine Cd.seq ?_
      refine Cd.cond rfl (fun h => ?_) (fun h => ?_)
      · have hjl : j < to.length := by simpa using h
        have hget := ints_get hjl
        have hy1 : (ysE f.terms)[(edgesTo f.terms k).length + j]? = some [.agg #[.int .i64 k, .int .i64 j, .int .i64 to[j]]] := by
          unfold ysE
          rw [List.getElem?_map, edges_get ht (by rw [← hto]; exact List.getElem?_eq_getElem hjl)]
          rfl
        refine Cd.skip ?_
        refine Cd.seq ?_
        refine Cd.block ?_
        refine Cd.seq ?_
        refine Cd.region ?_
        refine Ol.p mvi ?_
        refine Ol.p (ixn1 sl_L_int (Som.row (i := 0) rfl (by omega))) ?_
        refine Ol.p (ld one_int (Rd.row (i := 0) rfl hget)) ?_
        refine Ol.p asi ?_
        refine Ol.p asi ?_
        refine Ol.nil ?_
        refine Cd.seq ?_
        refine Cd.region ?_
        refine Ol.p mvf ?_
        refine Ol.p mvi ?_
        refine Ol.p mvi ?_
        refine Ol.p mvi ?_
        refine Ol.p (bds bs_api_Edge zr_api_Edge) ?_
        refine Ol.x (sp_yield (Own := [row (.slice A to.length c) 3 1 to.length (ints to), blk g4 (.cells b.cells.toArray 50), blk g (.cells f.cells.toArray 43)]) hY hy1 hJ) ?_
        rintro _ _ ⟨bb, Lj', rfl, rfl, ht', hf'⟩
        refine Ol.p noti ?_
        refine Ol.nil ?_
        refine Cd.cond rfl (fun hb => ?_) (fun hb => ?_)
        · have hb' : bb = false := by simpa using hb
          exact Cd.ret (hret (.inl rfl) (.inr ⟨_, hf' hb'⟩))
        · have hb' : bb = true := by simpa using hb
          refine Cd.skip ?_
          refine Cd.region ?_
          refine Ol.p addi ?_
          refine Ol.p mvi ?_
          refine Ol.nil ?_
          exact ⟨to.length - (j + 1), by omega, j + 1, Lj', rfl, by omega, ⟨rfl, rfl, rfl, rfl, rfl, rfl, rfl, rfl, trivial⟩, rfl, ht' hb'⟩
      · have hge : j = to.length := by
          have : ¬ (j : Int) < to.length := by simpa using h
          omega
        refine Cd.keep (L' := blk g (.cells f.cells.toArray 43) :: Lj) (.sub (.cons _ (.cons _ (List.Sublist.refl _)))) ?_
        refine Cd.exit (id := 2) ⟨Lj, ⟨rfl, rfl, rfl, rfl, trivial⟩, rfl, ?_⟩
        rw [edgesTo_succ ht, List.length_append, edgesB_len, ← hto, ← hge]
        exact hJ
    · rintro σ' _ ⟨Lj', hs', rfl, hJ'⟩
      refine Cd.has hs' ?_
      refine Cd.region ?_
      refine Ol.p addi ?_
      refine Ol.p mvi ?_
      refine Ol.nil ?_
      exact ⟨f.blocks.length - (k + 1), by omega, k + 1, Lj', rfl, by omega, ⟨rfl, rfl, rfl, rfl, trivial⟩, rfl, hJ'⟩
  · have hge : k = f.blocks.length := by
      have : ¬ (k : Int) < f.blocks.length := by simpa using h
      omega
    subst hge
    refine Cd.exit (id := 0) ?_
    refine hret (D := [_]) (.inr rfl) (.inl ?_)
    rw [ysE_len]
    unfold edges
    rw [htl]
    exact hJ
end
section
def okE (n : Nat) (e : Ed) : Bool := decide (0 ≤ e.to) && decide (e.to < (n : Int))
theorem uint_ge {a : Int} {n : Nat} (h : -9223372036854775808 ≤ a ∧ a ≤ 9223372036854775807) (hn : n < 2 ^ 50) : decide (IntKind.u64.wrap (n : Int) ≤ IntKind.u64.wrap a) = !(decide (0 ≤ a) && decide (a < (n : Int))) := by
  rw [wrapU, wrapU]
  by_cases h1 : 0 ≤ a <;> by_cases h2 : a < (n : Int) <;> simp [h1, h2] <;> omega
theorem edge_i64 {f : RFun} (hfit : Fit f) {e : Ed} (he : e ∈ edges f.terms) : (-9223372036854775808 ≤ e.to ∧ e.to ≤ 9223372036854775807) ∧ (0 ≤ e.src ∧ e.src < (f.blocks.length : Int)) ∧ (0 ≤ e.arm ∧ e.arm < 2) := by
  obtain ⟨k, j, t, hk, hj, h1, h2⟩ := mem_edges.1 he
  have hkl := (List.getElem?_eq_some_iff.1 hk).1
  unfold RFun.terms at hk hkl
  rw [List.getElem?_map] at hk
  cases hb : f.blocks[k]? with
  | none => rw [hb] at hk; cases hk
  | some b =>
    rw [hb] at hk
    cases hk
    have hbm := List.mem_of_getElem? hb
    have hjl := (List.getElem?_eq_some_iff.1 hj).1
    have hlen := toL_len b.term
    refine ⟨?_, ⟨by omega, by simp at hkl; omega⟩, by omega, by omega⟩
    rcases toL_mem (List.mem_of_getElem? hj) with e | e
    · exact hfit.term b hbm _ (by simp [e])
    · exact hfit.term b hbm _ (by simp [e])
set_option maxHeartbeats 1000000 in
theorem flow_Closed_ct {w : World} {f : RFun} (hf : FunAt w w.heap.size f) (hfit : Fit f) : Ct Try.prog 59 #[f.val] w (Is (.bool (closed f.terms))) := by
  have hbl := hfit.blen
  have htl : f.terms.length = f.blocks.length := by simp [RFun.terms]
  refine Ct.mk Try.func59 rfl rfl ?_
  refine Cd.seq ?_
  refine Cd.region ?_
  refine Ol.x bxg ?_
  rintro _ _ ⟨g1, rfl, rfl⟩
  refine Ol.x (alc zr_bool) ?_
  rintro _ _ ⟨g2, rfl, rfl⟩
  refine Ol.nil ?_
  refine Cd.seq ?_
  refine Cd.seq ?_
  refine Cd.region ?_
  refine Ol.p (ldw ag_api_Func (i := 1) rfl rfl) ?_
  refine Ol.x (sp_call en_flow_each (fun M w' hh => flow_each_ct (f := f))) ?_
  rintro _ _ ⟨_, rfl, gE, rfl, rfl⟩
  refine Ol.nil ?_
  refine Cd.block ?_
  refine Cd.rf (Own := [blk gE (.cells f.cells.toArray 43)]) (L0 := [blk g2 (.cells #[.bool false] 4), blk g1 (.cells f.cells.toArray 43)])
    (fun k L => L = [blk g2 (.cells #[.bool false] 4), blk g1 (.cells f.cells.toArray 43)] ∧ ∀ i e, i < k → (edges f.terms)[i]? = some e → okE f.blocks.length e = true)
    (fun _ c L => c = .ret ∧ L = [blk g2 (.cells #[.bool false] 4), blk g1 (.cells f.cells.toArray 43)] ∧ closed f.terms = false) (fun _ h => by cases h) en_flow_each_1 (flow_each_1_it hf hfit) (.refl _) ⟨rfl, fun i e h => by omega⟩ ysE_one rfl ?_ ?_ ?_
  · rintro l H k vs Lj hk ⟨rfl, hok⟩
    obtain ⟨e, he, rfl, hlt⟩ := ysE_get hk
    have hem := List.mem_of_getElem? he
    have hei := edge_i64 hfit hem
    refine Cd.region ?_
    refine Ol.x (alc zr_api_Edge) ?_
    rintro _ _ ⟨g3, rfl, rfl⟩
    refine Ol.s (stw sz_api_Edge rfl e.one (i := 0) rfl rfl) ?_
    refine Ol.nil ?_
    intro H' r hr
    refine Cd.block ?_
    refine Cd.seq ?_
    refine Cd.region ?_
    refine Ol.p (fdl fd_api_Edge_2) ?_
    refine Ol.p (ld one_int (Rd.blk (i := 0) rfl rfl)) ?_
    refine Ol.p (cvw in_int in_uint) ?_
    refine Ol.p (fdl fd_api_Func_1) ?_
    refine Ol.p (ld one_L_api_Block (Rd.blk (i := 2) rfl rfl)) ?_
    refine Ol.p (lens sl_L_api_Block) ?_
    refine Ol.p (cvw in_int in_uint) ?_
    refine Ol.p gei ?_
    refine Ol.nil ?_
    refine Cd.cond rfl (fun h => ?_) (fun h => ?_)
    · rw [uint_ge hei.1 hbl] at h
      refine Cd.seq ?_
      refine Cd.region ?_
      refine Ol.s (stv sz_bool (i := 1) rfl rfl) ?_
      refine Ol.keep (.sub (.cons _ (List.Sublist.refl _))) ?_
      refine Ol.nil ?_
      refine Cd.ret ⟨rfl, rfl, ?_⟩
      unfold closed
      have : (edges f.terms).all (fun e => decide (0 ≤ e.to) && decide (e.to < (f.terms.length : Int))) = false := by
        rw [List.all_eq_false]
        refine ⟨e, hem, ?_⟩
        rw [htl]
        simp at h ⊢
        omega
      rw [this]; rfl
    · rw [uint_ge hei.1 hbl] at h
      refine Cd.keep (L' := [blk g2 (.cells #[.bool false] 4), blk g1 (.cells f.cells.toArray 43)]) (.sub (.cons _ (List.Sublist.refl _))) ?_
      refine Cd.skip ⟨rfl, ?_⟩
      intro i e' hi he'
      rcases Nat.lt_or_ge i k with h3 | h3
      · exact hok i e' h3 he'
      · have : i = k := by omega
        subst this
        rw [he] at he'
        cases he'
        unfold okE
        simp at h ⊢
        omega
  · rintro L' ⟨rfl, hok⟩
    have hall : (edges f.terms).all (fun e => decide (0 ≤ e.to) && decide (e.to < (f.terms.length : Int))) = true := by
      rw [List.all_eq_true]
      intro e he
      obtain ⟨i, hi, rfl⟩ := List.getElem_of_mem he
      have := hok i _ (by rw [ysE_len]; exact hi) (List.getElem?_eq_getElem hi)
      rw [htl]; exact this
    refine Cd.seq ?_
    cases h4 : decide ((0 : Int) < (f.blocks.length : Int)) with
    | true =>
      refine Cd.region ?_
      refine Ol.p (fdl fd_api_Func_1) ?_
      refine Ol.p (ld one_L_api_Block (Rd.blk (i := 1) rfl rfl)) ?_
      refine Ol.p (lens sl_L_api_Block) ?_
      refine Ol.p gti ?_
      refine Ol.p mvb ?_
      refine Ol.gp h4 (fdl fd_api_Func_1) ?_
      refine Ol.gp h4 (ld one_L_api_Block (Rd.blk (i := 1) rfl rfl)) ?_
      refine Ol.gp h4 (lens sl_L_api_Block) ?_
      refine Ol.gp h4 lei ?_
      refine Ol.p (pkTb h4) ?_
      refine Ol.s (stv sz_bool (i := 0) rfl rfl) ?_
      refine Ol.nil ?_
      refine Cd.ret ⟨.bool _, retv rfl one_bool rfl (i := 0) rfl rfl, [], .nil, ?_, rfl⟩
      have h4' : 0 < f.blocks.length := by simpa using h4
      unfold closed
      rw [hall, htl]
      simp [h4']
      omega
    | false =>
      refine Cd.region ?_
      refine Ol.p (fdl fd_api_Func_1) ?_
      refine Ol.p (ld one_L_api_Block (Rd.blk (i := 1) rfl rfl)) ?_
      refine Ol.p (lens sl_L_api_Block) ?_
      refine Ol.p gti ?_
      refine Ol.p mvb ?_
      refine Ol.gn h4 ?_
      refine Ol.gn h4 ?_
      refine Ol.gn h4 ?_
      refine Ol.gn h4 ?_
      refine Ol.p (pkFb h4) ?_
      refine Ol.s (stv sz_bool (i := 0) rfl rfl) ?_
      refine Ol.nil ?_
      refine Cd.ret ⟨.bool _, retv rfl one_bool rfl (i := 0) rfl rfl, [], .nil, ?_, rfl⟩
      have h4' : f.blocks.length = 0 := by simpa using h4
      unfold closed
      rw [htl, h4']
      simp
  · rintro k c L' ⟨rfl, rfl, hcl⟩
    refine Cd.ret ⟨.bool _, retv rfl one_bool rfl (i := 0) rfl rfl, [], .nil, ?_, rfl⟩
    rw [hcl]
end
/-- A function value that tells whether something is so of edges. -/
def TellsE (P : Program) (w : World) (g : FuncId) (fst cap : Array Value) (ts : List Tm) (p : Ed → Bool) : Prop := Ent P g ∧ ∀ e ∈ edges ts, ∀ w', Below w.heap.size w w' → Ct P g (fst ++ #[e.val] ++ cap) w' (Is (.bool (p e)))
theorem filter_snoc {ts : List Tm} {p : Ed → Bool} {k : Nat} {e : Ed} (h : (edges ts)[k]? = some e) : ((edges ts).take (k + 1)).filter p = ((edges ts).take k).filter p ++ (if p e = true then [e] else []) := by
  rw [take_snoc_ h, List.filter_append]
  congr 1
  by_cases hp : p e = true <;> simp [hp]
theorem edV_app (a b : List Ed) : edV (a ++ b) = edV a ++ edV b := by simp [edV]
theorem closed_len {ts : List Tm} (h : closed ts = true) : 0 < ts.length ∧ ts.length ≤ 200 ∧ ∀ e ∈ edges ts, 0 ≤ e.to ∧ e.to < (ts.length : Int) := by
  unfold closed at h
  simp only [Bool.and_eq_true, decide_eq_true_eq, List.all_eq_true] at h
  exact ⟨h.1.2, h.2, fun e he => h.1.1 e he⟩
section
set_option maxHeartbeats 1000000 in
theorem flow_some_ct {w : World} {f : RFun} {g : FuncId} {fst cap : Array Value} {p : Ed → Bool} (hf : FunAt w w.heap.size f) (hfit : Fit f) (hp : TellsE Try.prog w g fst cap f.terms p) :
    Ct Try.prog 104 #[f.val, .func (.func g) fst cap] w (NewL 85 3 (someE f.terms p).length (edV (someE f.terms p))) := by
  have hbl := hfit.blen
  have htl : f.terms.length = f.blocks.length := by simp [RFun.terms]
  refine Ct.mk Try.func104 rfl rfl ?_
  refine Cd.seq ?_
  refine Cd.region ?_
  refine Ol.x bxg ?_
  rintro _ _ ⟨g2, rfl, rfl⟩
  refine Ol.x bxf ?_
  rintro _ _ ⟨g3, rfl, rfl⟩
  refine Ol.x (alc zr_L_api_Edge) ?_
  rintro _ _ ⟨g4, rfl, rfl⟩
  refine Ol.nil ?_
  refine Cd.seq ?_
  refine Cd.seq ?_
  refine Cd.region ?_
  refine Ol.p (ldw ag_api_Func (i := 2) rfl rfl) ?_
  refine Ol.s (cl en_flow_Closed (fun M w' hh => flow_Closed_ct (hf.now hh) hfit)) ?_
  refine Ol.p noti ?_
  refine Ol.nil ?_
  refine Cd.cond rfl (fun h => ?_) (fun h => ?_)
  · have hcl : closed f.terms = false := by simpa using h
    refine Cd.seq ?_
    refine Cd.region ?_
    refine Ol.s (stv sz_L_api_Edge (i := 0) rfl rfl) ?_
    refine Ol.nil ?_
    have e : someE f.terms p = [] := by unfold someE; rw [hcl]; rfl
    rw [e]
    refine Cd.nr 85 3 ?_
    refine Cd.ret ⟨.slice none 0 0, retv rfl one_L_api_Edge rfl (i := 1) rfl rfl, _, .sub (.cons_cons _ (.cons _ (.cons _ (.cons _ .slnil)))), none, 0, rfl, rfl⟩
  · have hcl : closed f.terms = true := by simpa using h
    obtain ⟨hpos, hmax, _⟩ := closed_len hcl
    have hel := edgesTo_len_le f.terms f.terms.length
    have e : someE f.terms p = (edges f.terms).filter p := by unfold someE; rw [hcl]; rfl
    rw [e]
    refine Cd.skip ?_
    refine Cd.seq ?_
    refine Cd.seq ?_
    refine Cd.region ?_
    refine Ol.p (ldw ag_api_Func (i := 2) rfl rfl) ?_
    refine Ol.x (sp_call en_flow_each (fun M w' hh => flow_each_ct (f := f))) ?_
    rintro _ _ ⟨_, rfl, gE, rfl, rfl⟩
    refine Ol.nil ?_
    refine Cd.block ?_
    refine Cd.nr 85 3 ?_
    refine Cd.rf (Own := [blk gE (.cells f.cells.toArray 43)]) (L0 := [row (.slice none 0 0) 85 3 0 [], blk g4 (.cells #[.slice none 0 0] 81), blk g3 (.cells #[.func (.func g) fst cap] 154), blk g2 (.cells f.cells.toArray 43)])
      (fun k L => ∃ A c n, n = (((edges f.terms).take k).filter p).length ∧ L = [row (.slice A n c) 85 3 n (edV (((edges f.terms).take k).filter p)), blk g4 (.cells #[.slice A n c] 81), blk g3 (.cells #[.func (.func g) fst cap] 154), blk g2 (.cells f.cells.toArray 43)])
      (fun _ _ _ => False) (fun _ h => by cases h) en_flow_each_1 (flow_each_1_it hf hfit) (.swap _ _ _) ⟨none, 0, 0, rfl, rfl⟩ ysE_one rfl ?_ ?_ (fun _ _ _ h => h.elim)
    · rintro l H k vs Lj hk ⟨A, c, n, hn, rfl⟩
      obtain ⟨e, he, rfl, hlt⟩ := ysE_get hk
      have hem := List.mem_of_getElem? he
      have hnk : n ≤ k := by rw [hn]; exact Nat.le_trans (List.length_filter_le _ _) (by simp; omega)
      have hlt2 : k < 400 := by unfold edges at hlt; omega
      refine Cd.region ?_
      refine Ol.x (alc zr_api_Edge) ?_
      rintro _ _ ⟨g5, rfl, rfl⟩
      refine Ol.s (stw sz_api_Edge rfl e.one (i := 0) rfl rfl) ?_
      refine Ol.nil ?_
      intro H' r hr
      refine Cd.block ?_
      refine Cd.seq ?_
      refine Cd.region ?_
      refine Ol.p (ldv one_func_api_Edge_bool (i := 3) rfl) ?_
      refine Ol.p (ldw ag_api_Edge (i := 0) rfl rfl) ?_
      refine Ol.x (sp_callv hp.1 (fun M w' hh => hp.2 e hem w' hh.below)) ?_
      rintro _ _ ⟨_, rfl, rfl, rfl⟩
      refine Ol.nil ?_
      refine Cd.cond rfl (fun h => ?_) (fun h => ?_)
      · skip
        refine Cd.region ?_
        refine Ol.p (ldv one_L_api_Edge (i := 2) rfl) ?_
        refine Ol.p (ldw ag_api_Edge (i := 0) rfl rfl) ?_
        refine Ol.x (bsn [e.val] sl_L_api_Edge zr_api_Edge (by intro v hv; cases hv with | head => rfl | tail _ h => cases h) rfl (by decide) (by decide)) ?_
        rintro _ _ ⟨g17, rfl, rfl⟩
        refine Ol.x (apn (i := 2) (m := 1) sl_L_api_Edge zr_api_Edge rfl (by decide) rfl (Src.row (i := 0) rfl rfl) e.one1 (by unfold maxLen; omega) (by omega)) ?_
        rintro _ _ ⟨A', c', rfl, rfl⟩
        refine Ol.s (stv sz_L_api_Edge (i := 3) rfl rfl) ?_
        refine Ol.keep (.sub (.cons _ (.cons _ (List.Sublist.refl _)))) ?_
        refine Ol.nil ?_
        refine ⟨A', c', n + 1, ?_, ?_⟩
        · rw [filter_snoc he, if_pos h, List.length_append, ← hn]; rfl
        · rw [filter_snoc he, if_pos h, edV_app]
          rfl
      · refine Cd.keep (.sub (.cons _ (List.Sublist.refl _))) ?_
        refine Cd.skip ⟨A, c, n, ?_, ?_⟩
        · rw [filter_snoc he, if_neg (by rw [h]; simp), List.append_nil]; exact hn
        · rw [filter_snoc he, if_neg (by rw [h]; simp), List.append_nil]
    · rintro L' ⟨A, c, n, hn, rfl⟩
      rw [ysE_len, List.take_length] at hn ⊢
      subst hn
      refine Cd.seq ?_
      refine Cd.region ?_
      refine Ol.p (ldv one_L_api_Edge (i := 1) rfl) ?_
      refine Ol.s (stv sz_L_api_Edge (i := 1) rfl rfl) ?_
      refine Ol.nil ?_
      refine Cd.ret ⟨.slice _ _ _, retv rfl one_L_api_Edge rfl (i := 1) rfl rfl, _, .sub (.cons_cons _ (.cons _ (.cons _ (.cons _ .slnil)))), A, c, rfl, rfl⟩
end
section
theorem flow_Edges_1_ct {w : World} {e : Ed} : Ct Try.prog 172 #[e.val] w (Is (.bool true)) := by
  refine Ct.mk Try.func172 rfl rfl ?_
  refine Cd.seq ?_
  refine Cd.region ?_
  refine Ol.x bxg ?_
  rintro _ _ ⟨g1, rfl, rfl⟩
  refine Ol.p asb ?_
  refine Ol.nil ?_
  refine Cd.seq ?_
  refine Cd.region ?_
  refine Ol.p asb ?_
  refine Ol.nil ?_
  refine Cd.ret ⟨.bool _, ret1 rfl rfl, [], .nil, rfl, rfl⟩
theorem flow_Edges_ct {w : World} {f : RFun} (hf : FunAt w w.heap.size f) (hfit : Fit f) : Ct Try.prog 146 #[f.val] w (NewL 85 3 (someE f.terms fun _ => true).length (edV (someE f.terms fun _ => true))) := by
  refine Ct.mk Try.func146 rfl rfl ?_
  refine Cd.seq ?_
  refine Cd.region ?_
  refine Ol.x bxg ?_
  rintro _ _ ⟨g1, rfl, rfl⟩
  refine Ol.p ass ?_
  refine Ol.nil ?_
  refine Cd.seq ?_
  refine Cd.region ?_
  refine Ol.p (ldw ag_api_Func (i := 0) rfl rfl) ?_
  refine Ol.x (sp_call en_flow_some (fun M w' hh => flow_some_ct (g := 172) (fst := #[]) (cap := #[]) (p := fun _ => true) (hf.now hh) hfit ⟨en_flow_Edges_1, fun e he w2 h2 => flow_Edges_1_ct⟩)) ?_
  rintro _ _ ⟨_, rfl, A, c, rfl, rfl⟩
  refine Ol.p ass ?_
  refine Ol.nil ?_
  refine Cd.ret ⟨.slice _ _ _, ret1 rfl rfl, _, .sub (.cons_cons _ (.cons _ .slnil)), A, c, rfl, rfl⟩
end
end Go.Proofs.Ytcojedoejpcolaa

/- The package ir: what is behind a block; long, whole functions: walked. -/
namespace Go.Proofs.Ytcojedoejpcolaa
set_option linter.unusedVariables false
open Go Go.RowKit
set_option maxRecDepth 100000

theorem hasV_congr {s s' : VS} {l : List Int} (h : ∀ n ∈ l, s n.toNat = s' n.toNat) : hasV s l = hasV s' l := by
  unfold hasV
  rw [Bool.eq_iff_iff, List.all_eq_true, List.all_eq_true]
  exact ⟨fun h2 n hn => by rw [← h n hn]; exact h2 n hn, fun h2 n hn => by rw [h n hn]; exact h2 n hn⟩
/-- A function value that tells whether something is so of what a list holds. -/
def TellsG {α : Type} (P : Program) (w : World) (g : FuncId) (fst cap : Array Value) (l : List α) (v : α → Value) (p : α → Bool) : Prop := Ent P g ∧ ∀ x ∈ l, ∀ w', Below w.heap.size w w' → Ct P g (fst ++ #[v x] ++ cap) w' (Is (.bool (p x)))
theorem blk_cell {l : List RBlk} {k j : Nat} {b : RBlk} {u : Value} (hk : l[k]? = some b) (hu : b.cells[j]? = some u) : (l.flatMap RBlk.cells)[k * 5 + j]? = some u := by
  rw [flat_get RBlk.len _ _ _ _ hk (by have := (List.getElem?_eq_some_iff.1 hu).1; rw [RBlk.len] at this; exact this)]; exact hu
theorem setReads {w' : World} {B i g : Nat} {w0 : World} {M L : List Res} {s : VS} {e : TypeId} (hh : Hp w0 B (M ++ L) w') (hi : L[i]? = some (blk g (.cells (encV s) e))) : Reads w' w'.heap.size 1 (some ⟨g, 0, none⟩) 201 (encV s).toList :=
  Reads.blk hh hi (by simp [encV]) (fun j u hu => by simpa using hu)
section
theorem slices_IndexFunc_Ins_ct {w : World} {A : Option Addr} {c : Nat} {l : List RIns} {g : FuncId} {fst cap : Array Value} {p : RIns → Bool} (hl : Reads w w.heap.size 8 A l.length (l.flatMap RIns.cells)) (hb : l.length < 2 ^ 62) (hf : TellsG Try.prog w g fst cap l RIns.val p) :
    Ct Try.prog 165 #[.slice A l.length c, .func (.func g) fst cap] w (Is (.int .i64 (indexI p l))) := by
  refine Ct.mk Try.func165 rfl rfl ?_
  refine Cd.seq ?_
  refine Cd.region ?_
  refine Ol.p asi ?_
  refine Ol.nil ?_
  refine Cd.seq ?_
  refine Cd.seq ?_
  refine Cd.region ?_
  refine Ol.p mvs ?_
  refine Ol.p (lens sl_L_api_Ins) ?_
  refine Ol.p mvi ?_
  refine Ol.nil ?_
  refine Cd.block ?_
  refine Cd.loop (fun m σ L => ∃ k, m = l.length - k ∧ k ≤ l.length ∧ Has σ [(0, .slice A l.length c), (1, .func (.func g) fst cap), (7, .int .i64 l.length), (8, .int .i64 k)] ∧ L = [] ∧ ∀ i y, i < k → l[i]? = some y → p y = false) (n := l.length) ⟨0, rfl, Nat.zero_le _, ⟨rfl, rfl, rfl, rfl, trivial⟩, rfl, fun i y h => by omega⟩ ?_
  rintro _ σ L ⟨k, rfl, hk, hs, rfl, hno⟩
  refine Cd.has hs ?_
  refine Cd.seq ?_
  refine Cd.region ?_
  refine Ol.p lsi ?_
  refine Ol.nil ?_
  refine Cd.seq ?_
  refine Cd.cond rfl (fun h => ?_) (fun h => ?_)
  · have hlt : k < l.length := by
      simp only [decide_eq_true_eq] at h; omega
    obtain ⟨x, hx⟩ : ∃ x, l[k]? = some x := ⟨_, List.getElem?_eq_getElem hlt⟩
    refine Cd.skip ?_
    refine Cd.seq ?_
    refine Cd.block ?_
    refine Cd.seq ?_
    refine Cd.region ?_
    refine Ol.p mvi ?_
    refine Ol.p asi ?_
    refine Ol.nil ?_
    refine Cd.seq ?_
    refine Cd.region ?_
    refine Ol.p mvf ?_
    refine Ol.p mvs ?_
    refine Ol.p mvi ?_
    refine Ol.p (ixn sl_L_api_Ins (Som.slc hl (by omega))) ?_
    refine Ol.p (lds (es := x.cells) ag_api_Ins hl x.len (fun j u hu => ins_cell hx hu)) ?_
    refine Ol.x (sp_callv hf.1 (fun M w' hh => hf.2 x (List.mem_of_getElem? hx) w' hh.below)) ?_
    rintro _ _ ⟨_, rfl, rfl, rfl⟩
    refine Ol.nil ?_
    refine Cd.cond rfl (fun h2 => ?_) (fun h2 => ?_)
    · refine Cd.seq ?_
      refine Cd.region ?_
      refine Ol.p mvi ?_
      refine Ol.p asi ?_
      refine Ol.nil ?_
      refine Cd.ret ⟨_, ret1 rfl rfl, [], .nil, ?_, rfl⟩
      rw [indexI_at hx h2 hno]
      rfl
    · refine Cd.skip ?_
      refine Cd.region ?_
      refine Ol.p addi ?_
      refine Ol.p mvi ?_
      refine Ol.nil ?_
      refine ⟨l.length - (k + 1), by omega, k + 1, rfl, by omega, ⟨rfl, rfl, rfl, rfl, trivial⟩, rfl, ?_⟩
      intro i y hi hy
      rcases Nat.lt_or_ge i k with h3 | h3
      · exact hno i y h3 hy
      · have : i = k := by omega
        subst this
        rw [hx] at hy
        cases hy
        exact h2
  · have hge : k = l.length := by
      simp only [decide_eq_false_iff_not] at h; omega
    subst hge
    refine Cd.exit (id := 0) ?_
    refine Cd.seq ?_
    refine Cd.region ?_
    refine Ol.p asi ?_
    refine Ol.nil ?_
    refine Cd.ret ⟨_, ret1 rfl rfl, [], .nil, ?_, rfl⟩
    rw [indexI_none hno]
    rfl
theorem slices_ContainsFunc_Ins_ct {w : World} {A : Option Addr} {c : Nat} {l : List RIns} {g : FuncId} {fst cap : Array Value} {p : RIns → Bool} (hl : Reads w w.heap.size 8 A l.length (l.flatMap RIns.cells)) (hb : l.length < 2 ^ 62) (hf : TellsG Try.prog w g fst cap l RIns.val p) :
    Ct Try.prog 131 #[.slice A l.length c, .func (.func g) fst cap] w (Is (.bool (l.any p))) := by
  refine Ct.mk Try.func131 rfl rfl ?_
  refine Cd.seq ?_
  refine Cd.region ?_
  refine Ol.p asb ?_
  refine Ol.nil ?_
  refine Cd.seq ?_
  refine Cd.region ?_
  refine Ol.p mvs ?_
  refine Ol.p mvf ?_
  refine Ol.s (cl en_slices_IndexFunc_L_api_Ins_api_Ins (fun M w' hh => slices_IndexFunc_Ins_ct (hl.now hh) hb ⟨hf.1, fun n hn w2 h2 => hf.2 n hn w2 (hh.below.trans (h2.mono hh.le))⟩)) ?_
  refine Ol.p gei ?_
  refine Ol.p asb ?_
  refine Ol.nil ?_
  refine Cd.ret ⟨.bool _, ret1 rfl rfl, [], .nil, ?_, rfl⟩
  rw [indexI_ge]
end
section
theorem slices_IndexFunc_Block_ct {w : World} {A : Option Addr} {c : Nat} {l : List RBlk} {g : FuncId} {fst cap : Array Value} {p : RBlk → Bool} (hl : Reads w w.heap.size 5 A l.length (l.flatMap RBlk.cells)) (hb : l.length < 2 ^ 62) (hf : TellsG Try.prog w g fst cap l RBlk.val p) :
    Ct Try.prog 164 #[.slice A l.length c, .func (.func g) fst cap] w (Is (.int .i64 (indexI p l))) := by
  refine Ct.mk Try.func164 rfl rfl ?_
  refine Cd.seq ?_
  refine Cd.region ?_
  refine Ol.p asi ?_
  refine Ol.nil ?_
  refine Cd.seq ?_
  refine Cd.seq ?_
  refine Cd.region ?_
  refine Ol.p mvs ?_
  refine Ol.p (lens sl_L_api_Block) ?_
  refine Ol.p mvi ?_
  refine Ol.nil ?_
  refine Cd.block ?_
  refine Cd.loop (fun m σ L => ∃ k, m = l.length - k ∧ k ≤ l.length ∧ Has σ [(0, .slice A l.length c), (1, .func (.func g) fst cap), (7, .int .i64 l.length), (8, .int .i64 k)] ∧ L = [] ∧ ∀ i y, i < k → l[i]? = some y → p y = false) (n := l.length) ⟨0, rfl, Nat.zero_le _, ⟨rfl, rfl, rfl, rfl, trivial⟩, rfl, fun i y h => by omega⟩ ?_
  rintro _ σ L ⟨k, rfl, hk, hs, rfl, hno⟩
  refine Cd.has hs ?_
  refine Cd.seq ?_
  refine Cd.region ?_
  refine Ol.p lsi ?_
  refine Ol.nil ?_
  refine Cd.seq ?_
  refine Cd.cond rfl (fun h => ?_) (fun h => ?_)
  · have hlt : k < l.length := by
      simp only [decide_eq_true_eq] at h; omega
    obtain ⟨x, hx⟩ : ∃ x, l[k]? = some x := ⟨_, List.getElem?_eq_getElem hlt⟩
    refine Cd.skip ?_
    refine Cd.seq ?_
    refine Cd.block ?_
    refine Cd.seq ?_
    refine Cd.region ?_
    refine Ol.p mvi ?_
    refine Ol.p asi ?_
    refine Ol.nil ?_
    refine Cd.seq ?_
    refine Cd.region ?_
    refine Ol.p mvf ?_
    refine Ol.p mvs ?_
    refine Ol.p mvi ?_
    refine Ol.p (ixn sl_L_api_Block (Som.slc hl (by omega))) ?_
    refine Ol.p (lds (es := x.cells) ag_api_Block hl x.len (fun j u hu => blk_cell hx hu)) ?_
    refine Ol.x (sp_callv hf.1 (fun M w' hh => hf.2 x (List.mem_of_getElem? hx) w' hh.below)) ?_
    rintro _ _ ⟨_, rfl, rfl, rfl⟩
    refine Ol.nil ?_
    refine Cd.cond rfl (fun h2 => ?_) (fun h2 => ?_)
    · refine Cd.seq ?_
      refine Cd.region ?_
      refine Ol.p mvi ?_
      refine Ol.p asi ?_
      refine Ol.nil ?_
      refine Cd.ret ⟨_, ret1 rfl rfl, [], .nil, ?_, rfl⟩
      rw [indexI_at hx h2 hno]
      rfl
    · refine Cd.skip ?_
      refine Cd.region ?_
      refine Ol.p addi ?_
      refine Ol.p mvi ?_
      refine Ol.nil ?_
      refine ⟨l.length - (k + 1), by omega, k + 1, rfl, by omega, ⟨rfl, rfl, rfl, rfl, trivial⟩, rfl, ?_⟩
      intro i y hi hy
      rcases Nat.lt_or_ge i k with h3 | h3
      · exact hno i y h3 hy
      · have : i = k := by omega
        subst this
        rw [hx] at hy
        cases hy
        exact h2
  · have hge : k = l.length := by
      simp only [decide_eq_false_iff_not] at h; omega
    subst hge
    refine Cd.exit (id := 0) ?_
    refine Cd.seq ?_
    refine Cd.region ?_
    refine Ol.p asi ?_
    refine Ol.nil ?_
    refine Cd.ret ⟨_, ret1 rfl rfl, [], .nil, ?_, rfl⟩
    rw [indexI_none hno]
    rfl
theorem slices_ContainsFunc_Block_ct {w : World} {A : Option Addr} {c : Nat} {l : List RBlk} {g : FuncId} {fst cap : Array Value} {p : RBlk → Bool} (hl : Reads w w.heap.size 5 A l.length (l.flatMap RBlk.cells)) (hb : l.length < 2 ^ 62) (hf : TellsG Try.prog w g fst cap l RBlk.val p) :
    Ct Try.prog 129 #[.slice A l.length c, .func (.func g) fst cap] w (Is (.bool (l.any p))) := by
  refine Ct.mk Try.func129 rfl rfl ?_
  refine Cd.seq ?_
  refine Cd.region ?_
  refine Ol.p asb ?_
  refine Ol.nil ?_
  refine Cd.seq ?_
  refine Cd.region ?_
  refine Ol.p mvs ?_
  refine Ol.p mvf ?_
  refine Ol.s (cl en_slices_IndexFunc_L_api_Block_api_Block (fun M w' hh => slices_IndexFunc_Block_ct (hl.now hh) hb ⟨hf.1, fun n hn w2 h2 => hf.2 n hn w2 (hh.below.trans (h2.mono hh.le))⟩)) ?_
  refine Ol.p gei ?_
  refine Ol.p asb ?_
  refine Ol.nil ?_
  refine Cd.ret ⟨.bool _, ret1 rfl rfl, [], .nil, ?_, rfl⟩
  rw [indexI_ge]
end
section
set_option maxHeartbeats 1000000 in
theorem ir_set_past_ct {w : World} {s : VS} {b : RBlk} (hb : BlkAt w b) : Ct Try.prog 135 #[.agg (encV s), b.val] w (fun v R => ∃ s', v = .tuple #[.agg (encV s'), .bool (okPast b.ins b.term s)] ∧ R = []) := by
  have hbl := hb.len
  refine Ct.mk Try.func135 rfl rfl ?_
  refine Cd.seq ?_
  refine Cd.region ?_
  refine Ol.x bxg ?_
  rintro _ _ ⟨g2, rfl, rfl⟩
  refine Ol.x bxg ?_
  rintro _ _ ⟨g3, rfl, rfl⟩
  refine Ol.x (alc zr_ir_set) ?_
  rintro _ _ ⟨g4, rfl, rfl⟩
  refine Ol.p asb ?_
  refine Ol.nil ?_
  refine Cd.seq ?_
  refine Cd.seq ?_
  refine Cd.region ?_
  refine Ol.p (fdl fd_api_Block_0) ?_
  refine Ol.p (ld one_L_api_Ins (Rd.blk (i := 1) rfl rfl)) ?_
  refine Ol.p (lens sl_L_api_Ins) ?_
  refine Ol.p mvi ?_
  refine Ol.nil ?_
  obtain ⟨Z, hZ⟩ : ∃ Z, Z = encV fun _ => false := ⟨_, rfl⟩
  refine Cd.block ?_   -- 0
  refine Cd.loop (fun m σ L => ∃ k s', m = b.ins.length - k ∧ k ≤ b.ins.length ∧ Has σ [(2, .pointer (some ⟨g2, 0, none⟩)), (3, .pointer (some ⟨g3, 0, none⟩)), (4, .pointer (some ⟨g4, 0, none⟩)), (9, .slice b.iA b.ins.length b.iC), (10, .int .i64 b.ins.length), (11, .int .i64 k)] ∧ [blk g4 (.cells Z 128), blk g3 (.cells b.cells.toArray 50), blk g2 (.cells (encV s') 128)] = L ∧ okPast (b.ins.drop k) b.term s' = okPast b.ins b.term s) (n := b.ins.length) ⟨0, s, rfl, Nat.zero_le _, ⟨rfl, rfl, rfl, rfl, rfl, rfl, trivial⟩, by rw [hZ, ← zeroV]; rfl, rfl⟩ ?_
  rintro _ σ L ⟨k, s', rfl, hk, hs, rfl, hok⟩
  refine Cd.has hs ?_
  refine Cd.seq ?_
  refine Cd.region ?_
  refine Ol.p lsi ?_
  refine Ol.nil ?_
  refine Cd.seq ?_
  refine Cd.cond rfl (fun h => ?_) (fun h => ?_)   -- $12
  · have hlt : k < b.ins.length := by
      simp only [decide_eq_true_eq] at h; omega
    obtain ⟨i, hi⟩ : ∃ i, b.ins[k]? = some i := ⟨_, List.getElem?_eq_getElem hlt⟩
    have him := List.mem_of_getElem? hi
    have hia := hb.all i him
    have hdr : b.ins.drop k = i :: b.ins.drop (k + 1) := by
      rw [List.drop_eq_getElem_cons hlt, (List.getElem?_eq_some_iff.1 hi).2]
    rw [hdr] at hok
    have hdef := defI_range i
    obtain ⟨dn, hdn⟩ : ∃ dn : Nat, defI i = (dn : Int) := ⟨(defI i).toNat, by omega⟩
    have hdn2 : dn < 201 := by omega
    have hrl := readsL_len i
    refine Cd.skip ?_
    refine Cd.seq ?_
    refine Cd.block ?_   -- 1
    refine Cd.seq ?_
    refine Cd.region ?_
    refine Ol.p (ixn sl_L_api_Ins (Som.slc hb.ins (by omega))) ?_
    refine Ol.p (lds (es := i.cells) ag_api_Ins hb.ins i.len (fun j u hu => ins_cell hi hu)) ?_
    refine Ol.x (alc zr_api_Ins) ?_
    rintro _ _ ⟨g7, rfl, rfl⟩
    refine Ol.s (stw sz_api_Ins rfl i.one (i := 0) rfl rfl) ?_
    refine Ol.nil ?_
    refine Cd.seq ?_
    refine Cd.seq ?_
    refine Cd.region ?_
    refine Ol.p (ldw ag_api_Ins (i := 0) rfl rfl) ?_
    refine Ol.x (sp_call en_ir_Reads (fun M w' hh => ir_Reads_ct (hia.now hh))) ?_
    rintro _ _ ⟨_, rfl, A16, c16, rfl, rfl⟩
    refine Ol.s (cl en_P_ir_set_has (fun M w' hh => P_ir_set_has_ct (setReads hh (i := 4) rfl) (Reads.row hh (i := 0) rfl) (by omega) (fun n hn => by have := readsL_mem hn; omega))) ?_
    refine Ol.p noti ?_
    refine Ol.nil ?_
    refine Cd.cond rfl (fun h2 => ?_) (fun h2 => ?_)   -- $18
    · have h3 : hasV s' (readsL i) = false := by simpa using h2
      refine Cd.seq ?_
      refine Cd.region ?_
      refine Ol.p (ldw ag_ir_set (i := 4) rfl (encV_size _)) ?_
      refine Ol.s (stw sz_ir_set (encV_size _) (encV_one _) (i := 2) rfl (by rw [hZ]; exact encV_size _)) ?_
      refine Ol.p asb ?_
      refine Ol.nil ?_
      refine Cd.ret ⟨.tuple _, retct rfl ag_ir_set rfl rfl (i := 2) rfl (encV_size _), [], .nil, s', ?_, rfl⟩
      rw [← hok]
      show _ = Value.tuple #[_, .bool (hasV s' (readsL i) && _)]
      rw [h3]; rfl
    have h3 : hasV s' (readsL i) = true := by simpa using h2
    have hok2 : okPast (b.ins.drop (k + 1)) b.term (putV s' dn true) = okPast b.ins b.term s := by
      rw [← hok]
      show _ = (hasV s' (readsL i) && okPast (b.ins.drop (k + 1)) b.term (putV s' (defI i).toNat true))
      rw [h3, hdn, Bool.true_and, Int.toNat_natCast]
    refine Cd.skip ?_
    refine Cd.region ?_
    refine Ol.p (ldw ag_api_Ins (i := 1) rfl rfl) ?_
    refine Ol.s (cl en_ir_Defines (fun M w' hh => ir_Defines_ct (hia.now hh))) ?_
    refine Ol.p (ixl1 (ix := dn) ar_ir_set (hy := congrArg (Value.int .i64) hdn)) ?_
    refine Ol.s (sto (k := dn) (.inr sz_bool) rfl rfl (i := 4) rfl (by rw [encV_size]; exact hdn2) rfl) ?_
    refine Ol.keep (.sub (.cons _ (.cons _ (List.Sublist.refl _)))) ?_
    refine Ol.nil ?_
    refine Cd.region ?_
    refine Ol.p addi ?_
    refine Ol.p mvi ?_
    refine Ol.nil ?_
    exact ⟨b.ins.length - (k + 1), by omega, k + 1, putV s' dn true, rfl, by omega, ⟨rfl, rfl, rfl, rfl, rfl, rfl, trivial⟩, congrArg (fun cs => [blk g4 (.cells Z 128), blk g3 (.cells b.cells.toArray 50), blk g2 (.cells cs 128)]) encV_set.symm, hok2⟩
  have hk2 : k = b.ins.length := by
    simp only [decide_eq_false_iff_not] at h; omega
  subst hk2
  rw [List.drop_length] at hok
  refine Cd.exit (id := 0) ?_
  refine Cd.seq ?_
  have hnl := needsL_len b.term
  refine Cd.draw mixed 5 (fun opNo => match opNo with | 3 => some (NewL 3 1 (needsL b.term).length (ints (needsL b.term))) | 4 => some (Is (.bool (hasV s' (needsL b.term)))) | _ => none) (fun opNo => match opNo with | 4 => [3] | _ => []) (by kernel_rfl) (by intro q V h; split at h <;> cases h; exact ⟨_, _, none, 0, rfl, rfl⟩; exact ⟨_, [], rfl, rfl⟩) (fun u hu => ?_)
  refine Wk.p (ldw ag_ir_set (i := 2) rfl (encV_size _)) ?_
  refine Wk.p (fdl fd_api_Block_1) ?_
  refine Wk.p (ldp (k := 0 + 1) (vs := b.term.cells.toArray) ag_api_Term (i := 1) rfl rfl (fun j u hu => by rw [Nat.zero_add, Nat.add_comm]; simpa [RBlk.cells] using hu)) ?_
  refine Wk.x (V := NewL 3 1 (needsL b.term).length (ints (needsL b.term))) hu (sp_call en_ir_Needs (fun M w' hh => ir_Needs_ct (t := b.term))) ?_
  rintro _ _ hu3 ⟨A27, c27, rfl, rfl⟩
  refine Wk.xn (V := Is (.bool (hasV s' (needsL b.term)))) hu (l := [3]) rfl (by simp) (by rw [needs_cons hu3, needs_none]; exact (sp_call en_P_ir_set_has (fun M w' hh => P_ir_set_has_ct (setReads hh (i := 3) rfl) (Reads.row hh (i := 0) rfl) (by omega) (fun n hn => by have := needsL_mem hn; omega)))) ?_
  rintro _ _ hu4 ⟨rfl, rfl⟩
  refine Wk.nil ?_
  rw [needs_cons hu4, needs_cons hu3, needs_none]
  refine Ol.s (stw sz_ir_set (encV_size _) (encV_one _) (i := 1) rfl (by rw [hZ]; exact encV_size _)) ?_
  refine Ol.p asb ?_
  refine Ol.nil ?_
  refine Cd.ret ⟨.tuple _, retct rfl ag_ir_set rfl rfl (i := 1) rfl (encV_size _), [], .nil, s', ?_, rfl⟩
  rw [← hok]; rfl
end
section
theorem RBlk.val_cells (b : RBlk) : b.val = .agg b.cells.toArray := rfl
theorem ir_long_1_ct {w : World} {b : RBlk} : Ct Try.prog 130 #[b.val] w (Is (.bool (decide (64 < b.ins.length)))) := by
  refine Ct.mk Try.func130 rfl rfl ?_
  refine Cd.seq ?_
  refine Cd.region ?_
  refine Ol.x bxg ?_
  rintro _ _ ⟨g1, rfl, rfl⟩
  refine Ol.p asb ?_
  refine Ol.nil ?_
  refine Cd.seq ?_
  refine Cd.region ?_
  refine Ol.p (fdl fd_api_Block_0) ?_
  refine Ol.p (ld one_L_api_Ins (Rd.blk (i := 0) rfl rfl)) ?_
  refine Ol.p (lens sl_L_api_Ins) ?_
  refine Ol.p gti ?_
  refine Ol.p asb ?_
  refine Ol.nil ?_
  refine Cd.ret ⟨.bool _, ret1 rfl rfl, [], .nil, ?_, rfl⟩
  congr 1
  rw [decide_eq_decide]; omega
set_option maxHeartbeats 1000000 in
theorem ir_long_ct {w : World} {f : RFun} (hf : FunAt w w.heap.size f) (hfit : Fit f) : Ct Try.prog 78 #[f.val] w (Is (.bool (longF f))) := by
  have hbl := hfit.blen
  have e1 : decide ((f.blocks.length : Int) = 0) = decide (f.blocks.length = 0) := by rw [decide_eq_decide]; omega
  have e2 : decide ((200 : Int) < (f.blocks.length : Int)) = decide (200 < f.blocks.length) := by rw [decide_eq_decide]; omega
  have e3 : decide ((8 : Int) < (f.params.length : Int)) = decide (8 < f.params.length) := by rw [decide_eq_decide]; omega
  have e : longF f = (decide (f.blocks.length = 0) || decide (200 < f.blocks.length) || decide (8 < f.params.length) || f.blocks.any fun b => decide (64 < b.ins.length)) := rfl
  refine Ct.mk Try.func78 rfl rfl ?_
  refine Cd.seq ?_
  refine Cd.region ?_
  refine Ol.x bxg ?_
  rintro _ _ ⟨g1, rfl, rfl⟩
  refine Ol.p asb ?_
  refine Ol.nil ?_
  refine Cd.seq ?_
  cases c1 : decide (f.blocks.length = 0) with
  | true =>
    refine Cd.region ?_
    refine Ol.p (fdl fd_api_Func_1) ?_
    refine Ol.p (ld one_L_api_Block (Rd.blk (i := 0) rfl rfl)) ?_
    refine Ol.p (lens sl_L_api_Block) ?_
    refine Ol.p eqi ?_
    refine Ol.p mvb ?_
    refine Ol.gn (e1.trans c1) ?_
    refine Ol.gn (e1.trans c1) ?_
    refine Ol.gn (e1.trans c1) ?_
    refine Ol.gn (e1.trans c1) ?_
    refine Ol.p (pkTb (e1.trans c1)) ?_
    refine Ol.p mvb ?_
    refine Ol.gn rfl ?_
    refine Ol.gn rfl ?_
    refine Ol.gn rfl ?_
    refine Ol.gn rfl ?_
    refine Ol.p (pkTb rfl) ?_
    refine Ol.p mvb ?_
    refine Ol.gn rfl ?_
    refine Ol.gn rfl ?_
    refine Ol.gn rfl ?_
    refine Ol.p (pkTb rfl) ?_
    refine Ol.p asb ?_
    refine Ol.nil ?_
    exact Cd.ret ⟨.bool _, ret1 rfl rfl, [], .nil, by rw [e, c1]; rfl, rfl⟩
  | false =>
  cases c2 : decide (200 < f.blocks.length) with
  | true =>
    refine Cd.region ?_
    refine Ol.p (fdl fd_api_Func_1) ?_
    refine Ol.p (ld one_L_api_Block (Rd.blk (i := 0) rfl rfl)) ?_
    refine Ol.p (lens sl_L_api_Block) ?_
    refine Ol.p eqi ?_
    refine Ol.p mvb ?_
    refine Ol.gp (e1.trans c1) (fdl fd_api_Func_1) ?_
    refine Ol.gp (e1.trans c1) (ld one_L_api_Block (Rd.blk (i := 0) rfl rfl)) ?_
    refine Ol.gp (e1.trans c1) (lens sl_L_api_Block) ?_
    refine Ol.gp (e1.trans c1) gti ?_
    refine Ol.p (pkFb (e1.trans c1)) ?_
    refine Ol.p mvb ?_
    refine Ol.gn (e2.trans c2) ?_
    refine Ol.gn (e2.trans c2) ?_
    refine Ol.gn (e2.trans c2) ?_
    refine Ol.gn (e2.trans c2) ?_
    refine Ol.p (pkTb (e2.trans c2)) ?_
    refine Ol.p mvb ?_
    refine Ol.gn rfl ?_
    refine Ol.gn rfl ?_
    refine Ol.gn rfl ?_
    refine Ol.p (pkTb rfl) ?_
    refine Ol.p asb ?_
    refine Ol.nil ?_
    exact Cd.ret ⟨.bool _, ret1 rfl rfl, [], .nil, by rw [e, c1, c2]; rfl, rfl⟩
  | false =>
  cases c3 : decide (8 < f.params.length) with
  | true =>
    refine Cd.region ?_
    refine Ol.p (fdl fd_api_Func_1) ?_
    refine Ol.p (ld one_L_api_Block (Rd.blk (i := 0) rfl rfl)) ?_
    refine Ol.p (lens sl_L_api_Block) ?_
    refine Ol.p eqi ?_
    refine Ol.p mvb ?_
    refine Ol.gp (e1.trans c1) (fdl fd_api_Func_1) ?_
    refine Ol.gp (e1.trans c1) (ld one_L_api_Block (Rd.blk (i := 0) rfl rfl)) ?_
    refine Ol.gp (e1.trans c1) (lens sl_L_api_Block) ?_
    refine Ol.gp (e1.trans c1) gti ?_
    refine Ol.p (pkFb (e1.trans c1)) ?_
    refine Ol.p mvb ?_
    refine Ol.gp (e2.trans c2) (fdl fd_api_Func_0) ?_
    refine Ol.gp (e2.trans c2) (ld one_L_int (Rd.blk (i := 0) rfl rfl)) ?_
    refine Ol.gp (e2.trans c2) (lens sl_L_int) ?_
    refine Ol.gp (e2.trans c2) gti ?_
    refine Ol.p (pkFb (e2.trans c2)) ?_
    refine Ol.p mvb ?_
    refine Ol.gn (e3.trans c3) ?_
    refine Ol.gn (e3.trans c3) ?_
    refine Ol.gn (e3.trans c3) ?_
    refine Ol.p (pkTb (e3.trans c3)) ?_
    refine Ol.p asb ?_
    refine Ol.nil ?_
    exact Cd.ret ⟨.bool _, ret1 rfl rfl, [], .nil, by rw [e, c1, c2, c3]; rfl, rfl⟩
  | false =>
    refine Cd.region ?_
    refine Ol.p (fdl fd_api_Func_1) ?_
    refine Ol.p (ld one_L_api_Block (Rd.blk (i := 0) rfl rfl)) ?_
    refine Ol.p (lens sl_L_api_Block) ?_
    refine Ol.p eqi ?_
    refine Ol.p mvb ?_
    refine Ol.gp (e1.trans c1) (fdl fd_api_Func_1) ?_
    refine Ol.gp (e1.trans c1) (ld one_L_api_Block (Rd.blk (i := 0) rfl rfl)) ?_
    refine Ol.gp (e1.trans c1) (lens sl_L_api_Block) ?_
    refine Ol.gp (e1.trans c1) gti ?_
    refine Ol.p (pkFb (e1.trans c1)) ?_
    refine Ol.p mvb ?_
    refine Ol.gp (e2.trans c2) (fdl fd_api_Func_0) ?_
    refine Ol.gp (e2.trans c2) (ld one_L_int (Rd.blk (i := 0) rfl rfl)) ?_
    refine Ol.gp (e2.trans c2) (lens sl_L_int) ?_
    refine Ol.gp (e2.trans c2) gti ?_
    refine Ol.p (pkFb (e2.trans c2)) ?_
    refine Ol.p mvb ?_
    refine Ol.gp (e3.trans c3) (fdl fd_api_Func_1) ?_
    refine Ol.gp (e3.trans c3) (ld one_L_api_Block (Rd.blk (i := 0) rfl rfl)) ?_
    refine Ol.gs (e3.trans c3) (cl en_slices_ContainsFunc_L_api_Block_api_Block (fun M w' hh => slices_ContainsFunc_Block_ct (g := 130) (fst := #[]) (cap := #[]) (p := fun b => decide (64 < b.ins.length)) ((hf.now hh).blocks) (by omega) ⟨en_ir_long_1, fun b hb w2 h2 => ir_long_1_ct⟩)) ?_
    refine Ol.p (pkFb (e3.trans c3)) ?_
    refine Ol.p asb ?_
    refine Ol.nil ?_
    exact Cd.ret ⟨.bool _, ret1 rfl rfl, [], .nil, by rw [e, c1, c2, c3]; rfl, rfl⟩
end
section
theorem ir_whole_1_ct {w : World} {i : RIns} (hi : InsAt w i) : Ct Try.prog 132 #[i.val] w (Is (.bool (!isIns i))) := by
  refine Ct.mk Try.func132 rfl rfl ?_
  refine Cd.seq ?_
  refine Cd.region ?_
  refine Ol.x bxg ?_
  rintro _ _ ⟨g1, rfl, rfl⟩
  refine Ol.p asb ?_
  refine Ol.nil ?_
  refine Cd.seq ?_
  refine Cd.region ?_
  refine Ol.p (ldw ag_api_Ins (i := 0) rfl rfl) ?_
  refine Ol.s (cl en_ir_IsIns (fun M w' hh => ir_IsIns_ct (hi.now hh))) ?_
  refine Ol.p noti ?_
  refine Ol.p asb ?_
  refine Ol.nil ?_
  exact Cd.ret ⟨.bool _, ret1 rfl rfl, [], .nil, rfl, rfl⟩
theorem InsAt.below {w w' : World} {i : RIns} (h : InsAt w i) (hb : Below w.heap.size w w') : InsAt w' i := ⟨(h.args.below hb).more hb.size, h.len, h.callee⟩
end
end Go.Proofs.Ytcojedoejpcolaa

/- The package ir: whole functions, walked. -/
namespace Go.Proofs.Ytcojedoejpcolaa
set_option linter.unusedVariables false
open Go Go.RowKit
set_option maxRecDepth 100000

theorem ints_at {l : List Int} {k : Nat} {n : Int} (h : l[k]? = some n) : (ints l)[k]? = some (.int .i64 n) := by simp [ints, h]
def seenV (l : List Int) : VS := fun j => decide ((j : Int) ∈ l)
theorem whole_split (f : RFun) : wholeF f = (f.params.all varB && decide f.params.Nodup && f.blocks.all wholeB) := rfl
theorem nodup_snoc {l : List Int} {n : Int} (h : l.Nodup) (hn : n ∉ l) : (l ++ [n]).Nodup := by
  rw [List.nodup_append]
  refine ⟨h, by simp, fun a ha b hb => ?_⟩
  have : b = n := by simpa using hb
  subst this
  exact fun e => hn (e ▸ ha)
section
set_option maxHeartbeats 2000000 in
theorem ir_whole_ct {w : World} {f : RFun} (hf : FunAt w w.heap.size f) (hfit : Fit f) : Ct Try.prog 79 #[f.val] w (Is (.bool (wholeF f))) := by
  have hbl := hfit.blen
  have hpl := hfit.plen
  refine Ct.mk Try.func79 rfl rfl ?_
  refine Cd.seq ?_
  refine Cd.region ?_
  refine Ol.x bxg ?_
  rintro _ _ ⟨g1, rfl, rfl⟩
  refine Ol.p asb ?_
  refine Ol.nil ?_
  refine Cd.seq ?_
  refine Cd.region ?_
  refine Ol.x (alc zr_ir_set) ?_
  rintro _ _ ⟨g3, rfl, rfl⟩
  refine Ol.nil ?_
  refine Cd.mid (fun σ' L' => ∃ Z, (f.params.all varB = true ∧ f.params.Nodup) ∧ Has σ' [(1, .pointer (some ⟨g1, 0, none⟩))] ∧ [blk g3 (.cells Z 128), blk g1 (.cells f.cells.toArray 43)] = L') ?_ ?_
  · refine Cd.seq ?_
    refine Cd.region ?_
    refine Ol.p (fdl fd_api_Func_0) ?_
    refine Ol.p (ld one_L_int (Rd.blk (i := 1) rfl rfl)) ?_
    refine Ol.p (lens sl_L_int) ?_
    refine Ol.p mvi ?_
    refine Ol.nil ?_
    refine Cd.block ?_   -- 0
    refine Cd.loop (fun m σ L => ∃ k, m = f.params.length - k ∧ k ≤ f.params.length ∧ Has σ [(1, .pointer (some ⟨g1, 0, none⟩)), (3, .pointer (some ⟨g3, 0, none⟩)), (9, .slice f.pA f.params.length f.pC), (10, .int .i64 f.params.length), (11, .int .i64 k)] ∧ [blk g3 (.cells (encV (seenV (f.params.take k))) 128), blk g1 (.cells f.cells.toArray 43)] = L ∧ (∀ n ∈ f.params.take k, varB n = true) ∧ (f.params.take k).Nodup) (n := f.params.length) ⟨0, rfl, Nat.zero_le _, ⟨rfl, rfl, rfl, rfl, rfl, trivial⟩, by rw [show encV (seenV (f.params.take 0)) = encV fun _ => false from encV_congr fun i _ => by simp [seenV], ← zeroV]; rfl, by simp, by simp⟩ ?_
    rintro _ σ L ⟨k, rfl, hk, hs, rfl, hv, hnd⟩
    refine Cd.has hs ?_
    refine Cd.seq ?_
    refine Cd.region ?_
    refine Ol.p lsi ?_
    refine Ol.nil ?_
    refine Cd.seq ?_
    refine Cd.cond rfl (fun h => ?_) (fun h => ?_)   -- $12
    · have hlt : k < f.params.length := by
        simp only [decide_eq_true_eq] at h; omega
      obtain ⟨p, hp⟩ : ∃ p, f.params[k]? = some p := ⟨_, List.getElem?_eq_getElem hlt⟩
      have hpm := List.mem_of_getElem? hp
      refine Cd.skip ?_
      refine Cd.seq ?_
      refine Cd.block ?_   -- 1
      refine Cd.seq ?_
      refine Cd.region ?_
      refine Ol.p (ixn1 (ix := k) sl_L_int (Som.slc hf.params (by omega))) ?_
      refine Ol.p (ld one_int (Rd.slc hf.params (ints_at hp))) ?_
      refine Ol.p asi ?_
      refine Ol.nil ?_
      cases hvp : varB p with
      | false =>
        have hg : (!varB p) = true := by rw [hvp]; rfl
        refine Cd.seq ?_
        refine Cd.seq ?_
        refine Cd.region ?_
        refine Ol.p mvi ?_
        refine Ol.s (cl en_ir_variable (fun M w' hh => ir_variable_ct)) ?_
        refine Ol.p noti ?_
        refine Ol.p mvb ?_
        refine Ol.gn hg ?_
        refine Ol.gn hg ?_
        refine Ol.gn hg ?_
        refine Ol.p (pkTb hg) ?_
        refine Ol.nil ?_
        refine Cd.cond rfl (fun h => ?_) (fun h => by cases h)   -- $22
        refine Cd.seq ?_
        refine Cd.region ?_
        refine Ol.p asb ?_
        refine Ol.nil ?_
        refine Cd.ret ⟨.bool _, ret1 rfl rfl, [], .nil, ?_, rfl⟩
        have : f.params.all varB = false := by
          rw [List.all_eq_false]
          exact ⟨p, hpm, by rw [hvp]; simp⟩
        rw [whole_split, this]; rfl
      | true =>
        have hg : (!varB p) = false := by rw [hvp]; rfl
        have hpr := varB_iff.1 hvp
        obtain ⟨m, rfl⟩ : ∃ m : Nat, p = (m : Int) := ⟨p.toNat, by omega⟩
        have hm : m < 201 := by omega
        refine Cd.seq ?_
        refine Cd.seq ?_
        refine Cd.region ?_
        refine Ol.p mvi ?_
        refine Ol.s (cl en_ir_variable (fun M w' hh => ir_variable_ct)) ?_
        refine Ol.p noti ?_
        refine Ol.p mvb ?_
        refine Ol.gp hg mvi ?_
        refine Ol.gp hg (ixl1 (ix := m) ar_ir_set) ?_
        refine Ol.gp hg (ld one_bool (Rd.blk (i := 0) rfl (encV_get hm))) ?_
        refine Ol.p (pkFb hg) ?_
        refine Ol.nil ?_
        refine Cd.cond rfl (fun h => ?_) (fun h => ?_)   -- $22
        · refine Cd.seq ?_
          refine Cd.region ?_
          refine Ol.p asb ?_
          refine Ol.nil ?_
          refine Cd.ret ⟨.bool _, ret1 rfl rfl, [], .nil, ?_, rfl⟩
          have hmem : (m : Int) ∈ f.params.take k := by simpa [seenV] using h
          have : decide f.params.Nodup = false := by
            rw [decide_eq_false_iff_not]
            intro hN
            rw [← List.take_append_drop k f.params, List.nodup_append] at hN
            exact hN.2.2 _ hmem _ (List.mem_of_getElem? (i := 0) (by rw [List.getElem?_drop]; exact hp)) rfl
          rw [whole_split, this, Bool.and_false]; rfl
        have hmem : (m : Int) ∉ f.params.take k := by simpa [seenV] using h
        refine Cd.skip ?_
        refine Cd.region ?_
        refine Ol.p mvi ?_
        refine Ol.p (ixl1 (ix := m) ar_ir_set) ?_
        refine Ol.s (sto (k := m) (.inr sz_bool) rfl rfl (i := 0) rfl (by rw [encV_size]; exact hm) rfl) ?_
        refine Ol.nil ?_
        refine Cd.region ?_
        refine Ol.p addi ?_
        refine Ol.p mvi ?_
        refine Ol.nil ?_
        have e : (encV (seenV (f.params.take k))).setIfInBounds m (.bool true) = encV (seenV (f.params.take (k + 1))) := encV_put fun j hj => by
          unfold putV seenV
          rw [take_snoc_ hp]
          by_cases e : j = m
          · subst e; simp
          · have : ¬ (j : Int) = (m : Int) := by omega
            simp [e, this]
        refine ⟨f.params.length - (k + 1), by omega, k + 1, rfl, by omega, ⟨rfl, rfl, rfl, rfl, rfl, trivial⟩, congrArg (fun cs => [blk g3 (.cells cs 128), blk g1 (.cells f.cells.toArray 43)]) e.symm, ?_, ?_⟩
        · rw [take_snoc_ hp]
          intro n hn
          rcases List.mem_append.1 hn with h1 | h1
          · exact hv n h1
          · have : n = (m : Int) := by simpa using h1
            rw [this]; exact hvp
        · rw [take_snoc_ hp]
          exact nodup_snoc hnd hmem
    have hk2 : k = f.params.length := by
      simp only [decide_eq_false_iff_not] at h; omega
    subst hk2
    rw [List.take_length] at hv hnd
    refine Cd.exit (id := 0) ?_
    exact ⟨_, ⟨by rw [List.all_eq_true]; exact hv, hnd⟩, ⟨rfl, trivial⟩, rfl⟩
  rintro σ' _ ⟨Z, ⟨hv, hnd⟩, hs', rfl⟩
  refine Cd.has hs' ?_
  have hsplit : wholeF f = f.blocks.all wholeB := by
    rw [whole_split, hv, decide_eq_true hnd]; rfl
  refine Cd.seq ?_
  refine Cd.seq ?_
  refine Cd.region ?_
  refine Ol.p (fdl fd_api_Func_1) ?_
  refine Ol.p (ld one_L_api_Block (Rd.blk (i := 1) rfl rfl)) ?_
  refine Ol.p (lens sl_L_api_Block) ?_
  refine Ol.p mvi ?_
  refine Ol.nil ?_
  refine Cd.block ?_   -- 2
  refine Cd.loop (fun m σ L => ∃ k, m = f.blocks.length - k ∧ k ≤ f.blocks.length ∧ Has σ [(1, .pointer (some ⟨g1, 0, none⟩)), (27, .slice f.bA f.blocks.length f.bC), (28, .int .i64 f.blocks.length), (29, .int .i64 k)] ∧ [blk g3 (.cells Z 128), blk g1 (.cells f.cells.toArray 43)] = L ∧ ∀ b ∈ f.blocks.take k, wholeB b = true) (n := f.blocks.length) ⟨0, rfl, Nat.zero_le _, ⟨rfl, rfl, rfl, rfl, trivial⟩, rfl, by simp⟩ ?_
  rintro _ σ L ⟨k, rfl, hk, hs, rfl, hw⟩
  refine Cd.has hs ?_
  refine Cd.seq ?_
  refine Cd.region ?_
  refine Ol.p lsi ?_
  refine Ol.nil ?_
  refine Cd.seq ?_
  refine Cd.cond rfl (fun h => ?_) (fun h => ?_)   -- $30
  · have hlt : k < f.blocks.length := by
      simp only [decide_eq_true_eq] at h; omega
    obtain ⟨b, hb⟩ : ∃ b, f.blocks[k]? = some b := ⟨_, List.getElem?_eq_getElem hlt⟩
    have hbm := List.mem_of_getElem? hb
    have hba := hf.blk hfit hbm
    have hbl2 := hba.len
    have hno : wholeB b = false → wholeF f = false := fun h0 => by
      rw [hsplit, List.all_eq_false]
      exact ⟨b, hbm, by rw [h0]; simp⟩
    refine Cd.skip ?_
    refine Cd.seq ?_
    refine Cd.block ?_   -- 3
    refine Cd.seq ?_
    refine Cd.region ?_
    refine Ol.p (ixn sl_L_api_Block (Som.slc hf.blocks (by omega))) ?_
    refine Ol.p (lds (es := b.cells) ag_api_Block hf.blocks b.len (fun j u hu => blk_cell hb hu)) ?_
    refine Ol.x (alc zr_api_Block) ?_
    rintro _ _ ⟨g7, rfl, rfl⟩
    refine Ol.s (stw sz_api_Block rfl b.one (i := 0) rfl rfl) ?_
    refine Ol.nil ?_
    refine Cd.seq ?_
    cases ht : isTerm b.term with
    | false =>
      have hg : (!isTerm b.term) = true := by rw [ht]; rfl
      refine Cd.region ?_
      refine Ol.p (fdl fd_api_Block_1) ?_
      refine Ol.p (ldp (k := 0 + 1) (vs := b.term.cells.toArray) ag_api_Term (i := 0) rfl rfl (fun j u hu => by rw [Nat.zero_add, Nat.add_comm]; simpa [RBlk.cells] using hu)) ?_
      refine Ol.s (cl en_ir_IsTerm (fun M w' hh => ir_IsTerm_ct (t := b.term))) ?_
      refine Ol.p noti ?_
      refine Ol.p mvb ?_
      refine Ol.gn hg ?_
      refine Ol.gn hg ?_
      refine Ol.gn hg ?_
      refine Ol.p (pkTb hg) ?_
      refine Ol.nil ?_
      refine Cd.cond rfl (fun h => ?_) (fun h => by cases h)   -- $41
      refine Cd.seq ?_
      refine Cd.region ?_
      refine Ol.p asb ?_
      refine Ol.nil ?_
      refine Cd.ret ⟨.bool _, ret1 rfl rfl, [], .nil, ?_, rfl⟩
      rw [hno (by unfold wholeB; rw [ht]; rfl)]
    | true =>
      have hg : (!isTerm b.term) = false := by rw [ht]; rfl
      refine Cd.region ?_
      refine Ol.p (fdl fd_api_Block_1) ?_
      refine Ol.p (ldp (k := 0 + 1) (vs := b.term.cells.toArray) ag_api_Term (i := 0) rfl rfl (fun j u hu => by rw [Nat.zero_add, Nat.add_comm]; simpa [RBlk.cells] using hu)) ?_
      refine Ol.s (cl en_ir_IsTerm (fun M w' hh => ir_IsTerm_ct (t := b.term))) ?_
      refine Ol.p noti ?_
      refine Ol.p mvb ?_
      refine Ol.gp hg (fdl fd_api_Block_0) ?_
      refine Ol.gp hg (ld one_L_api_Ins (Rd.blk (i := 0) rfl rfl)) ?_
      refine Ol.gs hg (cl en_slices_ContainsFunc_L_api_Ins_api_Ins (fun M w' hh => slices_ContainsFunc_Ins_ct (g := 132) (fst := #[]) (cap := #[]) (p := fun i => !isIns i) ((hba.now hh).ins) (by omega) ⟨en_ir_whole_1, fun i hi w2 h2 => ir_whole_1_ct (((hba.now hh).all i hi).below h2)⟩)) ?_
      refine Ol.p (pkFb hg) ?_
      refine Ol.nil ?_
      refine Cd.cond rfl (fun h => ?_) (fun h => ?_)   -- $41
      · refine Cd.seq ?_
        refine Cd.region ?_
        refine Ol.p asb ?_
        refine Ol.nil ?_
        refine Cd.ret ⟨.bool _, ret1 rfl rfl, [], .nil, ?_, rfl⟩
        rw [hno ?_]
        unfold wholeB
        rw [ht, Bool.true_and, List.all_eq_false]
        rw [List.any_eq_true] at h
        obtain ⟨i, hi, h3⟩ := h
        exact ⟨i, hi, by simpa using h3⟩
      have hwb : wholeB b = true := by
        unfold wholeB
        rw [ht, Bool.true_and, List.all_eq_true]
        rw [List.any_eq_false] at h
        intro i hi
        have := h i hi
        simpa using this
      refine Cd.keep (.sub (.cons _ (List.Sublist.refl _))) ?_
      refine Cd.skip ?_
      refine Cd.region ?_
      refine Ol.p addi ?_
      refine Ol.p mvi ?_
      refine Ol.nil ?_
      refine ⟨f.blocks.length - (k + 1), by omega, k + 1, rfl, by omega, ⟨rfl, rfl, rfl, rfl, trivial⟩, rfl, ?_⟩
      rw [take_snoc_ hb]
      intro x hx
      rcases List.mem_append.1 hx with h1 | h1
      · exact hw x h1
      · have : x = b := by simpa using h1
        rw [this]; exact hwb
  have hk2 : k = f.blocks.length := by
    simp only [decide_eq_false_iff_not] at h; omega
  subst hk2
  rw [List.take_length] at hw
  refine Cd.exit (id := 2) ?_
  refine Cd.seq ?_
  refine Cd.region ?_
  refine Ol.p asb ?_
  refine Ol.nil ?_
  refine Cd.ret ⟨.bool _, ret1 rfl rfl, [], .nil, ?_, rfl⟩
  have : f.blocks.all wholeB = true := by rw [List.all_eq_true]; exact hw
  rw [hsplit, this]
end
end Go.Proofs.Ytcojedoejpcolaa

/- A slice that starts somewhere in a block of one's own, and grows at its end: append. Over any program. -/
namespace Go.Proofs.Ytcojedoejpcolaa
set_option linter.unusedVariables false
open Go Go.RowKit

def Queue (i e n : Nat) (xs : List Value) (L : List Res) : Value → List Res → Prop := fun v L' => ∃ g off c cs, v = .slice (some ⟨g, off, none⟩) n c ∧ L' = L.set i (blk g (.cells cs e)) ∧ off + c ≤ cs.size ∧ n ≤ c ∧ ∀ j u, xs[j]? = some u → cs[off + j]? = some u
section
variable {P : Program} {w0 : World} {B : Nat} {σ : Env} {L : List Res} {d : Option Nat} {ty T : TypeId} {pos : String} {af : Array Edge} {gd : Option (Nat × Bool)} {x y : Operand}
theorem apq {i g off n c b m c2 e : Nat} {A2 : Option Addr} {cs : Array Value} {xs ys : List Value} {zv : Value} (hT : SlT P T e 1 b) (hz : ZrT P e zv) (hzs : zv.cells.size = 1) (hi : L[i]? = some (blk g (.cells cs e))) (hsz : off + c ≤ cs.size) (hnc : n ≤ c) (hxl : xs.length = n)
    (hold : ∀ j u, xs[j]? = some u → cs[off + j]? = some u) (hsrc : Src w0 B L A2 m 1 ys) (h1 : ∀ u ∈ ys, u.oneCell' = true) (hml : n + m ≤ maxLen) (hby : (n + m) * b ≤ 140737488355328) (hx : ev σ x = .slice (some ⟨g, off, none⟩) n c := by exact rfl) (hy : ev σ y = .slice A2 m c2 := by exact rfl) :
    Sp P w0 B ⟨d, .call { callee := .builtin .append, args := #[x, y], argTypes := #[T, T] }, ty, pos, af, gd⟩ σ L (Queue i e (n + m) (xs ++ ys) L) := fun M w hh => by
  obtain ⟨inf, hi1, he⟩ := info_of hT.2
  simp only [Prod.mk.injEq] at he
  obtain ⟨i2, hi2, hz2⟩ := info_of hz
  rw [hi1] at hi2
  cases hi2
  have hg : w.heap[g]? = some (.cells cs e (0, 0)) := hh.at_ hi
  have hyl : ys.length = m := by have := hsrc.1; omega
  have key : ∃ v' w', (Builtin.append_ #[T, T] ty #[.slice (some ⟨g, off, none⟩) n c, .slice A2 m c2]).run P w = .ok v' w' ∧ Stp (fun k => k = g) w w' ∧ ∃ g' off' c' cs', v' = .slice (some ⟨g', off', none⟩) (n + m) c' ∧ w'.heap[g']? = some (.cells cs' e (0, 0)) ∧ (g' = g ∨ (w.heap.size ≤ g' ∧ g' < w'.heap.size)) ∧ off' + c' ≤ cs'.size ∧ n + m ≤ c' ∧ ∀ j u, (xs ++ ys)[j]? = some u → cs'[off' + j]? = some u := by
    rcases hsrc.2 M w hh with ⟨rfl, rfl⟩ | ⟨a, rfl, hc⟩
    · have hy0 : ys = [] := List.eq_nil_of_length_eq_zero hyl
      subst hy0
      refine ⟨.slice (some ⟨g, off, none⟩) n c, w, ?_, Stp.refl _ _, g, off, c, cs, rfl, hg, .inl rfl, hsz, hnc, by simpa using hold⟩
      simp [Builtin.append_, run_underlying hT.1, sizeOf, typeInfo, hi1, Builtin.lenOf, Builtin.firstCells, hnc, storeCells]
    · by_cases hroom : n + m ≤ c
      · have hfc := run_firstCells_some (P := P) w inf.size m a m c2 ys (by rw [he.1]; exact hsrc.1) hc
        obtain ⟨w', hst, hstp, hg'⟩ := run_storeCells_all (P := P) (g := g) (e := e) ys (off + n * inf.size) 0 cs w hg (by rw [he.1]; omega) h1
        simp only [Nat.add_zero] at hst hg'
        refine ⟨.slice (some ⟨g, off, none⟩) (n + m) c, w', ?_, hstp, g, off, c, _, rfl, hg', .inl rfl, ?_, hroom, ?_⟩
        · simp [Builtin.append_, run_underlying hT.1, sizeOf, typeInfo, hi1, Builtin.lenOf, hroom, hfc, Addr.add_lit, hst]
        · simp only [List.size_toArray, List.length_append, List.length_take, List.length_drop, Array.length_toList, he.1]
          omega
        · intro j u hu
          simp only [he.1, Nat.mul_one, List.getElem?_toArray]
          have htl : (cs.toList.take (off + n)).length = off + n := by simp; omega
          rcases Nat.lt_or_ge j n with hj | hj
          · rw [List.getElem?_append_left (by omega)] at hu
            rw [List.append_assoc, List.getElem?_append_left (by omega), List.getElem?_take, if_pos (by omega), Array.getElem?_toList]
            exact hold j u hu
          · rw [List.getElem?_append_right (by omega)] at hu
            have hjl := (List.getElem?_eq_some_iff.1 hu).1
            rw [List.append_assoc, List.getElem?_append_right (by omega), htl, List.getElem?_append_left (by omega)]
            rw [show off + j - (off + n) = j - xs.length by omega]
            exact hu
      · have holds : ∀ j u, xs[j]? = some u → w.cell? ((⟨g, off, none⟩ : Addr).add j) = some u := fun j u hu => by
          rw [Addr.add_lit, cell_of_row w g (off + j) cs e (0, 0) hg]
          exact hold j u hu
        obtain ⟨v', w', hr, hown, hgr⟩ := run_append_arg_grows (P := P) w T ty e inf zv 1 b hT.1 hi1 hz2 he.1 he.2 hzs (by decide) ⟨g, off, none⟩ n c xs (by omega) holds a m c2 ys hsrc.1 hc (by omega) hml hby
        rcases hown.2 with ⟨rfl, h0⟩ | ⟨g', cap, cur, rfl, hb', hg', hnc', _, hcs, htake⟩
        · omega
        · refine ⟨_, w', hr, (Stp.of_grown hgr).mono (fun k _ hk => by cases hk), g', 0, cap, cur, rfl, hg', .inr ⟨hb', ?_⟩, by omega, hnc', ?_⟩
          · exact (Array.getElem?_eq_some_iff.1 hg').1
          · intro j u hu
            have hj := (List.getElem?_eq_some_iff.1 hu).1
            have : (cur.toList.take ((n + m) * 1))[j]? = some u := by rw [htake]; exact hu
            rw [List.getElem?_take] at this
            split at this
            · rw [Nat.zero_add]; simpa using this
            · cases this
  obtain ⟨v', w', hr, hstp, g', off', c', cs', rfl, hg', hgg, h2, h3, h4⟩ := key
  refine .inl ⟨_, w', ?_, _, hh.set (r' := blk g' (.cells cs' e)) hi hstp hg' (fun k hk => ?_), g', off', c', cs', rfl, rfl, h2, h3, h4⟩
  · simp [execOp, hx, hy, resolve, invoke, builtin, hr]
  · rcases hgg with e1 | e1
    · left
      have : k = g' := hk
      show k = g
      omega
    · right
      have : k = g' := hk
      omega
end
end Go.Proofs.Ytcojedoejpcolaa

/- The package ir: which blocks are reached, walked. -/
namespace Go.Proofs.Ytcojedoejpcolaa
set_option linter.unusedVariables false
open Go Go.RowKit
set_option maxRecDepth 100000

theorem intsN_one' (l : List Nat) : ∀ u ∈ intsN l, u.oneCell' = true := by
  intro u hu
  unfold intsN at hu
  rw [List.mem_map] at hu
  obtain ⟨_, _, rfl⟩ := hu
  rfl
theorem slq {P : Program} {w0 : World} {B : Nat} {σ : Env} {L : List Res} {d : Option Nat} {ty T : TypeId} {pos : String} {af : Array Edge} {gd : Option (Nat × Bool)} {x y : Operand} {g off off' n c e b : Nat} {k : IntKind} (hT : SlT P T e 1 b) (hl : 1 ≤ n) (ho : off' = if c = 1 then off else off + 1) (hx : ev σ x = .slice (some ⟨g, off, none⟩) n c := by exact rfl) (hy : ev σ y = .int k ((1 : Nat) : Int) := by exact rfl) :
    Sd P w0 B ⟨d, .slice T x (some y) none none, ty, pos, af, gd⟩ σ L (.slice (some ⟨g, off', none⟩) (n - 1) (c - 1)) := by
  have := sll (d := d) (ty := ty) (pos := pos) (af := af) (gd := gd) (P := P) (w0 := w0) (B := B) (L := L) (l := 1) hT hl hx hy
  have e : (if c = 1 then (some ⟨g, off, none⟩ : Option Addr) else (some ⟨g, off, none⟩ : Option Addr).map (·.add (1 * 1))) = some ⟨g, off', none⟩ := by
    rw [ho]
    by_cases e : c = 1 <;> simp [e, add_lit_]
  rwa [e] at this
section
set_option maxHeartbeats 4000000 in
theorem ir_reach_ct {w : World} {f : RFun} (hf : FunAt w w.heap.size f) (hfit : Fit f) (h0 : 0 < f.blocks.length) (h200 : f.blocks.length ≤ 200) :
    Ct Try.prog 80 #[f.val] w (Is (.tuple (bif okEs f.terms then #[.int .i64 ((orderF f.terms).length : Nat), .bool true] else #[.int .i64 0, .bool false]))) := by
  have htl : f.terms.length = f.blocks.length := by simp [RFun.terms]
  refine Ct.mk Try.func80 rfl rfl ?_
  refine Cd.seq ?_
  refine Cd.region ?_
  refine Ol.x bxg ?_
  rintro _ _ ⟨g1, rfl, rfl⟩
  refine Ol.p asi ?_
  refine Ol.p asb ?_
  refine Ol.nil ?_
  refine Cd.seq ?_
  refine Cd.region ?_
  refine Ol.p (fdl fd_api_Func_1) ?_
  refine Ol.p (ld one_L_api_Block (Rd.blk (i := 0) rfl rfl)) ?_
  refine Ol.p (lens sl_L_api_Block) ?_
  refine Ol.x (mks (n := f.blocks.length) (c := f.blocks.length) sl_L_bool zr_bool) ?_
  rintro _ _ ⟨gs, rfl, rfl⟩
  refine Ol.p ass ?_
  refine Ol.nil ?_
  rw [show (madeCells (Value.bool false).cells (f.blocks.length * 1)).toList.take (f.blocks.length * 1) = boolsL f.blocks.length fun _ => false from made_bools _]
  obtain ⟨L0, hL0⟩ : ∃ L0, L0 = [row (.slice (some ⟨gs, 0, none⟩) f.blocks.length f.blocks.length) 4 1 f.blocks.length (boolsL f.blocks.length fun _ => false), blk g1 (.cells f.cells.toArray 43)] := ⟨_, rfl⟩
  refine Cd.mid (fun σ' L' => okEs f.terms = true ∧ Has σ' [(1, .pointer (some ⟨g1, 0, none⟩)), (2, .int .i64 0), (4, .slice (some ⟨gs, 0, none⟩) f.blocks.length f.blocks.length)] ∧ L0 = L') ?_ ?_
  · refine Cd.seq ?_
    refine Cd.region ?_
    refine Ol.p (fdl fd_api_Func_1) ?_
    refine Ol.p (ld one_L_api_Block (Rd.blk (i := 1) rfl rfl)) ?_
    refine Ol.p (lens sl_L_api_Block) ?_
    refine Ol.p mvi ?_
    refine Ol.nil ?_
    refine Cd.block ?_   -- 0
    refine Cd.loop (fun m σ L => ∃ k, m = f.blocks.length - k ∧ k ≤ f.blocks.length ∧ Has σ [(1, .pointer (some ⟨g1, 0, none⟩)), (2, .int .i64 0), (4, .slice (some ⟨gs, 0, none⟩) f.blocks.length f.blocks.length), (16, .slice f.bA f.blocks.length f.bC), (17, .int .i64 f.blocks.length), (18, .int .i64 k)] ∧ L0 = L ∧ ∀ t ∈ f.terms.take k, (toL t).all (fun n => decide (1 ≤ n) && decide (n < (f.terms.length : Int))) = true) (n := f.blocks.length) ⟨0, rfl, Nat.zero_le _, ⟨rfl, rfl, rfl, rfl, rfl, rfl, trivial⟩, hL0, by simp⟩ ?_
    rintro _ σ L ⟨k, rfl, hk, hs, rfl, hall⟩
    refine Cd.has hs ?_
    refine Cd.seq ?_
    rw [hL0]
    refine Cd.region ?_
    refine Ol.p lsi ?_
    refine Ol.nil ?_
    refine Cd.seq ?_
    refine Cd.cond rfl (fun h => ?_) (fun h => ?_)   -- $19
    · have hlt : k < f.blocks.length := by
        simp only [decide_eq_true_eq] at h; omega
      obtain ⟨b, hb⟩ : ∃ b, f.blocks[k]? = some b := ⟨_, List.getElem?_eq_getElem hlt⟩
      have ht : f.terms[k]? = some b.term := by simp [RFun.terms, hb]
      have hbm := List.mem_of_getElem? hb
      refine Cd.skip ?_
      refine Cd.seq ?_
      refine Cd.block ?_   -- 1
      refine Cd.seq ?_
      refine Cd.region ?_
      refine Ol.p (ixn sl_L_api_Block (Som.slc hf.blocks (by omega))) ?_
      refine Ol.p (lds (es := b.cells) ag_api_Block hf.blocks b.len (fun j u hu => blk_cell hb hu)) ?_
      refine Ol.x (alc zr_api_Block) ?_
      rintro _ _ ⟨g6, rfl, rfl⟩
      refine Ol.s (stw sz_api_Block rfl b.one (i := 0) rfl rfl) ?_
      refine Ol.nil ?_
      refine Cd.seq ?_
      refine Cd.region ?_
      refine Ol.p (fdl fd_api_Block_1) ?_
      refine Ol.p (ldp (k := 0 + 1) (vs := b.term.cells.toArray) ag_api_Term (i := 0) rfl rfl (fun j u hu => by rw [Nat.zero_add, Nat.add_comm]; simpa [RBlk.cells] using hu)) ?_
      refine Ol.x (sp_call en_ir_To (fun M w' hh => ir_To_ct (t := b.term))) ?_
      rintro _ _ ⟨_, rfl, A24, c24, rfl, rfl⟩
      refine Ol.p (lens sl_L_int) ?_
      refine Ol.p mvi ?_
      refine Ol.nil ?_
      obtain ⟨to, hto⟩ : ∃ to, to = toL b.term := ⟨_, rfl⟩
      have htoL := toL_len b.term
      rw [← hto] at htoL ⊢
      refine Cd.block ?_   -- 2
      obtain ⟨L1, hL1⟩ : ∃ L1, L1 = row (.slice A24 to.length c24) 3 1 to.length (ints to) :: blk g6 (.cells b.cells.toArray 50) :: L0 := ⟨_, rfl⟩
      refine Cd.loop (fun m σ L => ∃ j, m = to.length - j ∧ j ≤ to.length ∧ Has σ [(1, .pointer (some ⟨g1, 0, none⟩)), (2, .int .i64 0), (4, .slice (some ⟨gs, 0, none⟩) f.blocks.length f.blocks.length), (16, .slice f.bA f.blocks.length f.bC), (17, .int .i64 f.blocks.length), (18, .int .i64 k), (24, .slice A24 to.length c24), (25, .int .i64 to.length), (26, .int .i64 j)] ∧ L1 = L ∧ ∀ n ∈ to.take j, 1 ≤ n ∧ n < (f.blocks.length : Int)) (n := to.length) ⟨0, rfl, Nat.zero_le _, ⟨rfl, rfl, rfl, rfl, rfl, rfl, rfl, rfl, rfl, trivial⟩, by rw [hL1, hL0]; rfl, by simp⟩ ?_
      clear hs
      rintro _ σ L ⟨j, rfl, hj, hs, rfl, hto2⟩
      refine Cd.has hs ?_
      refine Cd.seq ?_
      rw [hL1, hL0]
      refine Cd.region ?_
      refine Ol.p lsi ?_
      refine Ol.nil ?_
      refine Cd.seq ?_
      refine Cd.cond rfl (fun h2 => ?_) (fun h2 => ?_)   -- $27
      · have hjl : j < to.length := by
          simp only [decide_eq_true_eq] at h2; omega
        obtain ⟨n, hn⟩ : ∃ n, to[j]? = some n := ⟨_, List.getElem?_eq_getElem hjl⟩
        have hnm := List.mem_of_getElem? hn
        have hbad : ¬ (1 ≤ n ∧ n < (f.blocks.length : Int)) → okEs f.terms = false := fun hno => by
          unfold okEs
          rw [List.all_eq_false]
          refine ⟨b.term, List.mem_of_getElem? ht, ?_⟩
          rw [← hto]
          intro h3
          rw [List.all_eq_true] at h3
          have := h3 n hnm
          rw [htl] at this
          exact hno (by simpa using this)
        refine Cd.skip ?_
        refine Cd.seq ?_
        refine Cd.block ?_   -- 3
        refine Cd.seq ?_
        refine Cd.region ?_
        refine Ol.p (ixn1 (ix := j) sl_L_int (Som.row (i := 0) rfl (by omega))) ?_
        refine Ol.p (ld one_int (Rd.row (i := 0) rfl (ints_at hn))) ?_
        refine Ol.p asi ?_
        refine Ol.nil ?_
        refine Cd.seq ?_
        cases hlow : decide (n < 1) with
        | true =>
          refine Cd.region ?_
          refine Ol.p mvi ?_
          refine Ol.p lsi ?_
          refine Ol.p mvb ?_
          refine Ol.gn hlow ?_
          refine Ol.gn hlow ?_
          refine Ol.gn hlow ?_
          refine Ol.gn hlow ?_
          refine Ol.gn hlow ?_
          refine Ol.p (pkTb hlow) ?_
          refine Ol.nil ?_
          refine Cd.cond rfl (fun h => ?_) (fun h => by cases h)   -- $38
          refine Cd.seq ?_
          refine Cd.region ?_
          refine Ol.p asi ?_
          refine Ol.p asb ?_
          refine Ol.nil ?_
          refine Cd.ret ⟨.tuple _, ret2 rfl rfl rfl, [], .nil, ?_, rfl⟩
          rw [hbad (by simp only [decide_eq_true_eq] at hlow; omega)]; rfl
        | false =>
          refine Cd.region ?_
          refine Ol.p mvi ?_
          refine Ol.p lsi ?_
          refine Ol.p mvb ?_
          refine Ol.gp hlow mvi ?_
          refine Ol.gp hlow (fdl fd_api_Func_1) ?_
          refine Ol.gp hlow (ld one_L_api_Block (Rd.blk (i := 3) rfl rfl)) ?_
          refine Ol.gp hlow (lens sl_L_api_Block) ?_
          refine Ol.gp hlow gei ?_
          refine Ol.p (pkFb hlow) ?_
          refine Ol.nil ?_
          refine Cd.cond rfl (fun h => ?_) (fun h => ?_)   -- $38
          · refine Cd.seq ?_
            refine Cd.region ?_
            refine Ol.p asi ?_
            refine Ol.p asb ?_
            refine Ol.nil ?_
            refine Cd.ret ⟨.tuple _, ret2 rfl rfl rfl, [], .nil, ?_, rfl⟩
            rw [hbad (by simp only [decide_eq_true_eq] at h; omega)]; rfl
          refine Cd.skip ?_
          refine Cd.region ?_
          refine Ol.p addi ?_
          refine Ol.p mvi ?_
          refine Ol.nil ?_
          refine ⟨to.length - (j + 1), by omega, j + 1, rfl, by omega, ⟨rfl, rfl, rfl, rfl, rfl, rfl, rfl, rfl, rfl, trivial⟩, rfl, ?_⟩
          intro x hx
          rw [take_snoc_ hn] at hx
          rcases List.mem_append.1 hx with h3 | h3
          · exact hto2 x h3
          · have : x = n := by simpa using h3
            subst this
            simp only [decide_eq_false_iff_not] at h hlow
            omega
      have hj2 : j = to.length := by
        simp only [decide_eq_false_iff_not] at h2; omega
      subst hj2
      rw [List.take_length] at hto2
      refine Cd.exit (id := 2) ?_
      refine Cd.keep (.sub (.cons _ (.cons _ (List.Sublist.refl _)))) ?_
      refine Cd.region ?_
      refine Ol.p addi ?_
      refine Ol.p mvi ?_
      refine Ol.nil ?_
      refine ⟨f.blocks.length - (k + 1), by omega, k + 1, rfl, by omega, ⟨rfl, rfl, rfl, rfl, rfl, rfl, trivial⟩, rfl, ?_⟩
      intro x hx
      rw [take_snoc_ ht] at hx
      rcases List.mem_append.1 hx with h3 | h3
      · exact hall x h3
      · have : x = b.term := by simpa using h3
        subst this
        rw [← hto, List.all_eq_true]
        intro n hn
        have := hto2 n hn
        rw [htl]
        simpa using this
    have hk2 : k = f.blocks.length := by
      simp only [decide_eq_false_iff_not] at h; omega
    subst hk2
    rw [← htl, List.take_length] at hall
    refine Cd.exit (id := 0) ?_
    refine ⟨?_, ⟨rfl, rfl, rfl, trivial⟩, rfl⟩
    unfold okEs
    rw [List.all_eq_true]
    exact hall
  rintro σ' _ ⟨hok, hs', rfl⟩
  refine Cd.has hs' ?_
  have hcl := okEs_closed hok (by omega) (by omega)
  rw [hok, cond_true]
  refine Cd.seq ?_
  refine Cd.seq ?_
  rw [hL0]
  refine Cd.region ?_
  refine Ol.x (bsv [.int .i64 0] sl_L_int zr_int (by simp [Value.cells])) ?_
  rintro _ _ ⟨gq, rfl, rfl⟩
  refine Ol.p ass ?_
  refine Ol.nil ?_
  refine Cd.unrow (fun cs0 hcs1 hcs2 => ?_)
  refine Cd.block ?_   -- 4
  refine Cd.loop (fun m σ L => ∃ (S : Nat → Bool) (todo : List Nat) (g off c : Nat) (cs : Array Value), m = 3 * (f.blocks.length - cntB f.blocks.length S) + todo.length ∧ Bfs f.terms S todo ∧ todo.length ≤ 1 + 2 * cntB f.blocks.length S ∧ (off + c ≤ cs.size ∧ todo.length ≤ c ∧ ∀ j u, (intsN todo)[j]? = some u → cs[off + j]? = some u) ∧ Has σ [(1, .pointer (some ⟨g1, 0, none⟩)), (2, .int .i64 (cntB f.blocks.length S : Nat)), (4, .slice (some ⟨gs, 0, none⟩) f.blocks.length f.blocks.length), (9, .slice (some ⟨g, off, none⟩) todo.length c)] ∧
      [blk g (.cells cs 3), row (.slice (some ⟨gs, 0, none⟩) f.blocks.length f.blocks.length) 4 1 f.blocks.length (boolsL f.blocks.length S), blk g1 (.cells f.cells.toArray 43)] = L) (n := 3 * (f.blocks.length - cntB f.blocks.length fun _ => false) + 1)
    ⟨fun _ => false, [0], gq, 0, 1, cs0, rfl, Bfs.start (by omega), by simp, ⟨by omega, Nat.le_refl _, fun j u hu => ?_⟩, ⟨rfl, by rw [show cntB f.blocks.length (fun _ => false) = 0 by simp [cntB]]; rfl, rfl, rfl, trivial⟩, rfl⟩ ?_
  · have h3 : (cs0.toList.take (1 * 1))[j]? = some u := by rw [hcs2]; exact hu
    rw [List.getElem?_take] at h3
    split at h3
    · rw [Nat.zero_add]; simpa using h3
    · cases h3
  rintro _ σ L ⟨S, todo, g, off, c, cs, rfl, hB, hlen, ⟨hsz, hnc, hcell⟩, hs, rfl⟩
  refine Cd.has hs ?_
  have hcnt := cntB_le f.blocks.length S
  refine Cd.seq ?_
  refine Cd.seq ?_
  refine Cd.region ?_
  refine Ol.p mvs ?_
  refine Ol.p (lens sl_L_int) ?_
  refine Ol.p gti ?_
  refine Ol.nil ?_
  refine Cd.cond rfl (fun h => ?_) (fun h => ?_)   -- $44
  · obtain ⟨x, rest, rfl⟩ : ∃ x rest, todo = x :: rest := by
      cases todo with
      | nil => simp at h
      | cons x rest => exact ⟨x, rest, rfl⟩
    obtain ⟨hxl, hxr⟩ := hB.t x (by simp)
    rw [htl] at hxl
    obtain ⟨b, hb⟩ : ∃ b, f.blocks[x]? = some b := ⟨_, List.getElem?_eq_getElem hxl⟩
    have ht : f.terms[x]? = some b.term := by simp [RFun.terms, hb]
    have h00 : cs[off + 0]? = some (.int .i64 (x : Int)) := hcell 0 _ rfl
    have hrest : ∀ j u, (intsN rest)[j]? = some u → cs[(if c = 1 then off else off + 1) + j]? = some u := fun j u hu => by
      by_cases e : c = 1
      · have : rest.length = 0 := by simp only [List.length_cons] at hnc; omega
        have : rest = [] := List.eq_nil_of_length_eq_zero this
        subst this; simp [intsN] at hu
      · rw [if_neg e, show off + 1 + j = off + (j + 1) by omega]
        exact hcell (j + 1) u hu
    simp only [List.length_cons] at hnc hlen
    obtain ⟨off', hoff⟩ : ∃ off', off' = if c = 1 then off else off + 1 := ⟨_, rfl⟩
    have hsz' : off' + (c - 1) ≤ cs.size := by rw [hoff]; split <;> omega
    rw [← hoff] at hrest
    refine Cd.skip ?_
    refine Cd.block ?_   -- 5
    refine Cd.seq ?_
    refine Cd.region ?_
    refine Ol.p mvs ?_
    refine Ol.p (ixo (ix := 0) (n := rest.length + 1) sl_L_int) ?_
    refine Ol.p (ld one_int (Rd.blk (i := 0) rfl h00)) ?_
    refine Ol.p asi ?_
    refine Ol.nil ?_
    refine Cd.seq ?_
    refine Cd.region ?_
    refine Ol.p mvs ?_
    refine Ol.p (slq (n := rest.length + 1) (c := c) (off' := off') sl_L_int (by omega) hoff) ?_
    refine Ol.p ass ?_
    refine Ol.nil ?_
    refine Cd.seq ?_
    refine Cd.region ?_
    refine Ol.p mvs ?_
    refine Ol.p mvi ?_
    refine Ol.p (ixn1 (ix := x) sl_L_bool (Som.row (i := 1) rfl (by omega))) ?_
    refine Ol.p (ld one_bool (Rd.row (i := 1) rfl (boolsL_get hxl))) ?_
    refine Ol.p noti ?_
    refine Ol.nil ?_
    refine Cd.cond rfl (fun h2 => ?_) (fun h2 => ?_)   -- $54
    · have hSx : S x = false := by simpa using h2
      have hcs := cntB_set hxl hSx
      have hcl2 := cntB_le f.blocks.length (setB S x)
      have hat : ∀ n ∈ toL b.term, 0 ≤ n := fun n hn => by have := okEs_at hok (a := x) (by rw [toAt_some ht]; exact hn); omega
      have htoN : (toN b.term).length ≤ 2 := by have := toL_len b.term; unfold toN; rw [List.length_map]; exact this
      have htoN2 : (toL b.term).length = (toN b.term).length := by unfold toN; rw [List.length_map]
      have hB2 : Bfs f.terms (setB S x) (rest ++ toN b.term) := hB.see (fun q => by rw [mem_toN hat, toAt_some ht]) (fun q hq => by
        have := okEs_at hok (a := x) (n := (q : Int)) (by rw [toAt_some ht]; exact (mem_toN hat q).1 hq); omega)
      refine Cd.seq ?_
      refine Cd.region ?_
      refine Ol.p mvs ?_
      refine Ol.p mvi ?_
      refine Ol.p (ixn1 (ix := x) sl_L_bool (Som.row (i := 1) rfl (by omega))) ?_
      refine Ol.s (str (i := 1) (k := x) sz_bool rfl rfl rfl (by rw [boolsL_len]; exact hxl) rfl) ?_
      refine Ol.nil ?_
      refine Cd.seq ?_
      refine Cd.region ?_
      refine Ol.p mvi ?_
      refine Ol.p addi ?_
      refine Ol.p asi ?_
      refine Ol.nil ?_
      refine Cd.region ?_
      refine Ol.p mvs ?_
      refine Ol.p (fdl fd_api_Func_1) ?_
      refine Ol.p (ld one_L_api_Block (Rd.blk (i := 2) rfl rfl)) ?_
      refine Ol.p mvi ?_
      refine Ol.p (ixn (ix := x) sl_L_api_Block (Som.slc hf.blocks (by omega))) ?_
      refine Ol.p (fdp fd_api_Block_1) ?_
      refine Ol.p (lds (es := b.term.cells) ag_api_Term hf.blocks rfl (fun q u hu => by rw [Nat.add_assoc, hf.cell hb (j := 1 + q) (by have := (List.getElem?_eq_some_iff.1 hu).1; simp [Tm.cells] at this; omega), Nat.add_comm]; simpa [RBlk.cells] using hu)) ?_
      refine Ol.x (sp_call en_ir_To (fun M w' hh => ir_To_ct (t := b.term))) ?_
      rintro _ _ ⟨_, rfl, A67, c67, rfl, rfl⟩
      refine Ol.x (apq (i := 1) (n := rest.length) (c := c - 1) (m := (toL b.term).length) (xs := intsN rest) (ys := ints (toL b.term)) sl_L_int zr_int rfl rfl hsz' (by omega) (by simp [intsN]) hrest (Src.row (i := 0) rfl (by simp [ints])) (ints_one _) (by unfold maxLen; omega) (by omega)) ?_
      rintro _ _ ⟨g', off2, c', cs', rfl, rfl, hq1, hq2, hq3⟩
      refine Ol.p ass ?_
      refine Ol.keep (.sub (.cons _ (List.Sublist.refl _))) ?_
      refine Ol.nil ?_
      have e1 : rest.length + (toL b.term).length = (rest ++ toN b.term).length := by rw [List.length_append, htoN2]
      have e2 : intsN rest ++ ints (toL b.term) = intsN (rest ++ toN b.term) := by rw [toN_ints hat]; simp [intsN]
      rw [e1] at hq2 ⊢
      rw [e2] at hq3
      refine ⟨3 * (f.blocks.length - cntB f.blocks.length (setB S x)) + (rest ++ toN b.term).length, ?_, setB S x, rest ++ toN b.term, g', off2, c', cs', rfl, hB2, ?_, ⟨hq1, hq2, hq3⟩, ⟨rfl, ?_, rfl, rfl, trivial⟩, ?_⟩
      · rw [List.length_append, List.length_cons]; omega
      · rw [List.length_append]; omega
      · rw [hcs]; rfl
      · rw [← boolsL_set]; rfl
    have hSx : S x = true := by simpa using h2
    refine Cd.skip ?_
    exact ⟨3 * (f.blocks.length - cntB f.blocks.length S) + rest.length, by simp only [List.length_cons]; omega, S, rest, g, off', c - 1, cs, rfl, hB.pop hSx, by omega, ⟨hsz', by omega, hrest⟩, ⟨rfl, rfl, rfl, rfl, trivial⟩, rfl⟩
  have htodo : todo = [] := by
    cases todo with
    | nil => rfl
    | cons x rest => simp only [decide_eq_false_iff_not, List.length_cons] at h; omega
  subst htodo
  have hfin := hB.fin hcl
  rw [htl] at hfin
  refine Cd.exit (id := 4) ?_
  refine Cd.seq ?_
  refine Cd.region ?_
  refine Ol.p mvi ?_
  refine Ol.p asi ?_
  refine Ol.p asb ?_
  refine Ol.nil ?_
  refine Cd.ret ⟨.tuple _, ret2 rfl rfl rfl, [], .nil, ?_, rfl⟩
  rw [hfin]; rfl
end
end Go.Proofs.Ytcojedoejpcolaa

/- The package ir: whether all that is read has a value; whether a function is right: walked. -/
namespace Go.Proofs.Ytcojedoejpcolaa
set_option linter.unusedVariables false
open Go Go.RowKit
set_option maxRecDepth 100000

theorem ixi {P : Program} {w0 : World} {B : Nat} {σ : Env} {L : List Res} {d : Option Nat} {ty T : TypeId} {pos : String} {af : Array Edge} {gd : Option (Nat × Bool)} {x y : Operand} {g ix n c e b : Nat} {k : IntKind} (hT : SlT P T e 201 b) (hx : ev σ x = .slice (some ⟨g, 0, none⟩) n c := by exact rfl) (hy : ev σ y = .int k (ix : Int) := by exact rfl) (h : ix < n := by omega) :
    Sd P w0 B ⟨d, .indexAddr T x y, ty, pos, af, gd⟩ σ L (.pointer (some ⟨g, ix * 201, none⟩)) := by
  have := ixo (d := d) (ty := ty) (pos := pos) (af := af) (gd := gd) (P := P) (w0 := w0) (B := B) (L := L) hT hx hy h
  rwa [Nat.zero_add] at this
theorem trn_any {P : Program} {w0 : World} {B : Nat} {σ : Env} {r : Res} {L : List Res} {o : Oper} {v : Value} {g e : Nat} {cs : Array Value} (h : Sp P w0 B o σ (r :: L) (det v (blk g (.cells cs e) :: L))) : Sp P w0 B o σ (r :: L) (Adds (fun v' R => v' = v ∧ ∃ g cs, R = [blk g (.cells cs e)]) L) := fun M w hh =>
  Goes.mono (h M w hh) fun v' w' ⟨L', h1, h2, h3⟩ => ⟨L', h1, [blk g (.cells cs e)], h3, h2, g, cs, rfl⟩
theorem encV_len (s : VS) : (encV s).toList.length = 201 := by simp [encV]
section
set_option maxHeartbeats 8000000 in
theorem ir_valued_ct {w : World} {f : RFun} (hf : FunAt w w.heap.size f) (hfit : Fit f) (hl : longF f = false) (hw : wholeF f = true) (hok : okEs f.terms = true) : Ct Try.prog 81 #[f.val] w (Is (.bool (valuedF f))) := by
  have htl : f.terms.length = f.blocks.length := by simp [RFun.terms]
  have hlong : 0 < f.blocks.length ∧ f.blocks.length ≤ 200 ∧ f.params.length ≤ 8 := by
    unfold longF at hl
    simp only [Bool.or_eq_false_iff, decide_eq_false_iff_not] at hl
    omega
  obtain ⟨h0, h200, hp8⟩ := hlong
  have hvar : ∀ n ∈ f.params, 1 ≤ n ∧ n ≤ 200 := fun n hn => by
    rw [whole_split, Bool.and_eq_true, Bool.and_eq_true, List.all_eq_true] at hw
    exact varB_iff.1 (hw.1.1 n hn)
  obtain ⟨n, hn⟩ : ∃ n, n = f.blocks.length := ⟨_, rfl⟩
  have hto : ∀ (a : Nat) (x : RBlk), f.blocks[a]? = some x → ∀ m ∈ toL x.term, 1 ≤ m ∧ m < (n : Int) := fun a x ha m hm => by
    have ht : f.terms[a]? = some x.term := by simp [RFun.terms, ha]
    have := okEs_at hok (a := a) (by rw [toAt_some ht]; exact hm)
    omega
  refine Ct.mk Try.func81 rfl rfl ?_
  refine Cd.seq ?_
  refine Cd.region ?_
  refine Ol.x bxg ?_
  rintro _ _ ⟨g1, rfl, rfl⟩
  refine Ol.p asb ?_
  refine Ol.nil ?_
  refine Cd.seq ?_
  refine Cd.region ?_
  refine Ol.p (fdl fd_api_Func_1) ?_
  refine Ol.p (ld one_L_api_Block (Rd.blk (i := 0) rfl rfl)) ?_
  refine Ol.p (lens sl_L_api_Block) ?_
  refine Ol.x (mks (n := f.blocks.length) (c := f.blocks.length) sl_L_ir_set zr_ir_set) ?_
  rintro _ _ ⟨gi, rfl, rfl⟩
  refine Ol.p ass ?_
  refine Ol.nil ?_
  refine Cd.unrow (fun cs hcs1 hcs2 => ?_)
  have hcs : cs = inA n fun _ _ => false := by
    rw [← made_inA, hn]
    apply Array.ext'
    rw [List.take_of_length_le (by simp [hcs1])] at hcs2
    rw [hcs2, List.take_of_length_le (by simp [madeCells, Value.cells])]
    rfl
  subst hcs
  rw [← hn]
  obtain ⟨LF, hLF⟩ : ∃ LF, LF = blk g1 (.cells f.cells.toArray 43) := ⟨_, rfl⟩
  refine Cd.mid (fun σ' L' => Has σ' [(1, .pointer (some ⟨g1, 0, none⟩)), (3, .slice (some ⟨gi, 0, none⟩) n n)] ∧ [blk gi (.cells (inA n fun _ _ => true) 128), LF] = L') ?_ ?_
  · refine Cd.seq ?_
    refine Cd.region ?_
    refine Ol.p mvs ?_
    refine Ol.p (lens sl_L_ir_set) ?_
    refine Ol.p mvi ?_
    refine Ol.nil ?_
    refine Cd.block ?_   -- 0
    refine Cd.loop (fun m σ L => ∃ k, m = n - k ∧ k ≤ n ∧ Has σ [(1, .pointer (some ⟨g1, 0, none⟩)), (3, .slice (some ⟨gi, 0, none⟩) n n), (25, .int .i64 n), (26, .int .i64 k)] ∧ [blk gi (.cells (inA n fun b _ => decide (b < k)) 128), LF] = L) (n := n) ⟨0, rfl, Nat.zero_le _, ⟨rfl, rfl, rfl, rfl, trivial⟩, by rw [hLF, inA_congr (J := fun _ _ => false) (fun b v _ _ => by simp)]⟩ ?_
    rintro _ σ L ⟨k, rfl, hk, hs, rfl⟩
    refine Cd.has hs ?_
    refine Cd.seq ?_
    refine Cd.region ?_
    refine Ol.p lsi ?_
    refine Ol.nil ?_
    refine Cd.seq ?_
    refine Cd.cond rfl (fun h => ?_) (fun h => ?_)   -- $27
    · have hlt : k < n := by
        simp only [decide_eq_true_eq] at h; omega
      refine Cd.skip ?_
      refine Cd.seq ?_
      refine Cd.block ?_   -- 1
      refine Cd.seq ?_
      refine Cd.region ?_
      refine Ol.p mvi ?_
      refine Ol.p asi ?_
      refine Ol.nil ?_
      refine Cd.region ?_
      refine Ol.p mvs ?_
      refine Ol.p mvi ?_
      refine Ol.s (cl en_ir_full (fun M w' hh => ir_full_ct)) ?_
      refine Ol.p (ixi (ix := k) sl_L_ir_set) ?_
      refine Ol.s (sta (k := k * 201) sz_ir_set (encV_size _) (encV_one _) (i := 0) rfl (by rw [inA_size]; have : (k + 1) * 201 ≤ n * 201 := Nat.mul_le_mul_right _ hlt; omega)) ?_
      refine Ol.nil ?_
      refine Cd.region ?_
      refine Ol.p addi ?_
      refine Ol.p mvi ?_
      refine Ol.nil ?_
      refine ⟨n - (k + 1), by omega, k + 1, rfl, by omega, ⟨rfl, rfl, rfl, rfl, trivial⟩, congrArg (fun cs => [blk gi (.cells cs 128), LF]) (Eq.symm ((inA_sta hlt).trans (inA_congr fun b v hb hv => ?_)))⟩
      unfold setI
      by_cases e : b = k
      · rw [if_pos e]; simp [e]
      · rw [if_neg e, decide_eq_decide]; omega
    have hk2 : k = n := by
      simp only [decide_eq_false_iff_not] at h; omega
    subst hk2
    refine Cd.exit (id := 0) ?_
    exact ⟨⟨rfl, rfl, trivial⟩, by rw [inA_congr (I := fun b _ => decide (b < k)) (J := fun _ _ => true) (fun b v hb _ => by simpa using hb)]⟩
  rintro σ' _ ⟨hs', rfl⟩
  refine Cd.has hs' ?_
  clear hs'
  refine Cd.seq ?_
  refine Cd.region ?_
  refine Ol.p mvs ?_
  refine Ol.p (bda (cs := encV fun _ => false) ar_ir_set zr_ir_set (hf := by rw [← zeroV]; rfl)) ?_
  refine Ol.p (ixi (ix := 0) sl_L_ir_set) ?_
  refine Ol.s (sta (k := 0 * 201) sz_ir_set (encV_size _) (encV_one _) (i := 0) rfl (by rw [inA_size]; have : (0 + 1) * 201 ≤ n * 201 := Nat.mul_le_mul_right _ (by omega); omega)) ?_
  refine Ol.nil ?_
  rw [show ((inA n fun _ _ => true).toList.take (0 * 201) ++ (encV fun _ => false).toList ++ (inA n fun _ _ => true).toList.drop (0 * 201 + 201)).toArray = inA n (setI (fun _ _ => true) 0 fun _ => false) from inA_sta (by omega)]
  refine Cd.mid (fun σ' L' => Has σ' [(1, .pointer (some ⟨g1, 0, none⟩)), (3, .slice (some ⟨gi, 0, none⟩) n n)] ∧ ∃ I, Val f I ∧ [blk gi (.cells (inA n I) 128), LF] = L') ?_ ?_
  · refine Cd.seq ?_
    rw [hLF]
    refine Cd.region ?_
    refine Ol.p (fdl fd_api_Func_0) ?_
    refine Ol.p (ld one_L_int (Rd.blk (i := 1) rfl rfl)) ?_
    refine Ol.p (lens sl_L_int) ?_
    refine Ol.p mvi ?_
    refine Ol.nil ?_
    refine Cd.block ?_   -- 2
    refine Cd.loop (fun m σ L => ∃ k s, m = f.params.length - k ∧ k ≤ f.params.length ∧ Has σ [(1, .pointer (some ⟨g1, 0, none⟩)), (3, .slice (some ⟨gi, 0, none⟩) n n), (38, .slice f.pA f.params.length f.pC), (39, .int .i64 f.params.length), (40, .int .i64 k)] ∧ [blk gi (.cells (inA n (setI (fun _ _ => true) 0 s)) 128), LF] = L ∧ ∀ v, s v = true ↔ ∃ p ∈ f.params.take k, p.toNat = v) (n := f.params.length) ⟨0, fun _ => false, rfl, Nat.zero_le _, ⟨rfl, rfl, rfl, rfl, rfl, trivial⟩, by rw [hLF]; rfl, by simp⟩ ?_
    rintro _ σ L ⟨k, s, rfl, hk, hs, rfl, hsv⟩
    refine Cd.has hs ?_
    refine Cd.seq ?_
    refine Cd.region ?_
    refine Ol.p lsi ?_
    refine Ol.nil ?_
    refine Cd.seq ?_
    refine Cd.cond rfl (fun h => ?_) (fun h => ?_)   -- $41
    · have hlt : k < f.params.length := by
        simp only [decide_eq_true_eq] at h; omega
      obtain ⟨p, hp⟩ : ∃ p, f.params[k]? = some p := ⟨_, List.getElem?_eq_getElem hlt⟩
      have hpr := hvar p (List.mem_of_getElem? hp)
      obtain ⟨m, rfl⟩ : ∃ m : Nat, p = (m : Int) := ⟨p.toNat, by omega⟩
      have hm : m < 201 := by omega
      refine Cd.skip ?_
      refine Cd.seq ?_
      refine Cd.block ?_   -- 3
      refine Cd.seq ?_
      refine Cd.region ?_
      refine Ol.p (ixn1 (ix := k) sl_L_int (Som.slc hf.params (by omega))) ?_
      refine Ol.p (ld one_int (Rd.slc hf.params (ints_at hp))) ?_
      refine Ol.p asi ?_
      refine Ol.nil ?_
      refine Cd.region ?_
      refine Ol.p mvs ?_
      refine Ol.p mvi ?_
      refine Ol.p (ixi (ix := 0) sl_L_ir_set) ?_
      refine Ol.p (ixl1 (ix := m) ar_ir_set) ?_
      refine Ol.s (sto (k := m) (.inr sz_bool) rfl rfl (i := 0) rfl (by rw [inA_size]; omega) rfl) ?_
      refine Ol.nil ?_
      refine Cd.region ?_
      refine Ol.p addi ?_
      refine Ol.p mvi ?_
      refine Ol.nil ?_
      have e : (inA n (setI (fun _ _ => true) 0 s)).setIfInBounds m (.bool true) = inA n (setI (fun _ _ => true) 0 (putV s m true)) := by
        have := inA_put (n := n) (b := 0) (v := m) (u := true) (I := setI (fun _ _ => true) 0 s) hm
        rw [Nat.zero_mul, Nat.zero_add] at this
        rw [this]
        refine inA_congr fun b v hb hv => ?_
        unfold setI
        by_cases e : b = 0 <;> simp [e]
      refine ⟨f.params.length - (k + 1), by omega, k + 1, putV s m true, rfl, by omega, ⟨rfl, rfl, rfl, rfl, rfl, trivial⟩, congrArg (fun cs => [blk gi (.cells cs 128), LF]) e.symm, fun v => ?_⟩
      rw [take_snoc_ hp]
      unfold putV
      by_cases e2 : v = m
      · rw [if_pos e2]
        simp only [true_iff]
        exact ⟨(m : Int), by simp, by simp [e2]⟩
      · rw [if_neg e2, hsv]
        constructor
        · rintro ⟨p, h1, h2⟩; exact ⟨p, by simp [h1], h2⟩
        · rintro ⟨p, h1, h2⟩
          rcases List.mem_append.1 h1 with h1 | h1
          · exact ⟨p, h1, h2⟩
          · have : p = (m : Int) := by simpa using h1
            subst this; simp at h2; omega
    have hk2 : k = f.params.length := by
      simp only [decide_eq_false_iff_not] at h; omega
    subst hk2
    rw [List.take_length] at hsv
    refine Cd.exit (id := 2) ?_
    refine ⟨⟨rfl, rfl, trivial⟩, setI (fun _ _ => true) 0 s, ⟨fun v hv => ?_, fun b v hv hb => ?_⟩, by rw [hLF]⟩
    · unfold setI; rw [if_pos rfl]; exact hsv v
    · unfold setI at hb
      by_cases e : b = 0
      · rw [if_pos e] at hb
        rw [e]
        refine .zero fun p hp e2 => ?_
        rw [(hsv v).2 ⟨p, hp, e2⟩] at hb; cases hb
      · rw [if_neg e] at hb; cases hb
  rintro σ' _ ⟨hs', I0, hV0, rfl⟩
  refine Cd.has hs' ?_
  clear hs'
  refine Cd.mid (fun σ' L' => Has σ' [(1, .pointer (some ⟨g1, 0, none⟩)), (3, .slice (some ⟨gi, 0, none⟩) n n)] ∧ ∃ I, (∀ b v, v < 201 → (I b v = false ↔ Bare f v b)) ∧ [blk gi (.cells (inA n I) 128), LF] = L') ?_ ?_
  · refine Cd.seq ?_
    refine Cd.region ?_
    refine Ol.p asb ?_
    refine Ol.nil ?_
    refine Cd.block ?_   -- 4
    refine Cd.loop (fun m σ L => ∃ (I : IV) (mv : Bool), m = muI n I + (if mv = true then 1 else 0) ∧ Val f I ∧ (mv = false → ∀ (a : Nat) (x : RBlk), f.blocks[a]? = some x → ∀ to : Nat, (to : Int) ∈ toL x.term → Stab I (outV x.ins (I a)) to) ∧ Has σ [(1, .pointer (some ⟨g1, 0, none⟩)), (3, .slice (some ⟨gi, 0, none⟩) n n), (7, .bool mv)] ∧ [blk gi (.cells (inA n I) 128), LF] = L) (n := muI n I0 + 1) ⟨I0, true, rfl, hV0, (fun h => by cases h), ⟨rfl, rfl, rfl, trivial⟩, rfl⟩ ?_
    rintro _ σ L ⟨I, mv, rfl, hV, hst, hs, rfl⟩
    refine Cd.has hs ?_
    refine Cd.seq ?_
    refine Cd.seq ?_
    refine Cd.region ?_
    refine Ol.p mvb ?_
    refine Ol.nil ?_
    refine Cd.cond rfl (fun h => ?_) (fun h => ?_)   -- $49
    · subst h
      refine Cd.skip ?_
      refine Cd.block ?_   -- 5
      refine Cd.seq ?_
      refine Cd.region ?_
      refine Ol.p asb ?_
      refine Ol.nil ?_
      refine Cd.seq ?_
      rw [hLF]
      refine Cd.region ?_
      refine Ol.p (fdl fd_api_Func_1) ?_
      refine Ol.p (ld one_L_api_Block (Rd.blk (i := 1) rfl rfl)) ?_
      refine Ol.p (lens sl_L_api_Block) ?_
      refine Ol.p mvi ?_
      refine Ol.nil ?_
      refine Cd.block ?_   -- 6
      refine Cd.loop (fun m σ L => ∃ (k : Nat) (J : IV) (mv : Bool), m = n - k ∧ k ≤ n ∧ Has σ [(1, .pointer (some ⟨g1, 0, none⟩)), (3, .slice (some ⟨gi, 0, none⟩) n n), (7, .bool mv), (51, .slice f.bA f.blocks.length f.bC), (52, .int .i64 n), (53, .int .i64 k)] ∧ [blk gi (.cells (inA n J) 128), LF] = L ∧ Val f J ∧ (mv = true → muI n J < muI n I) ∧
        (mv = false → J = I ∧ ∀ (a : Nat) (x : RBlk), a < k → f.blocks[a]? = some x → ∀ to : Nat, (to : Int) ∈ toL x.term → Stab I (outV x.ins (I a)) to)) (n := n) ⟨0, I, false, rfl, Nat.zero_le _, ⟨rfl, rfl, rfl, rfl, by rw [hn]; rfl, rfl, trivial⟩, by rw [hLF], hV, (fun h => by cases h), fun _ => ⟨rfl, fun a x ha => by omega⟩⟩ ?_
      clear hs
      rintro _ σ L ⟨k, J, mv, rfl, hk, hs, rfl, hVJ, hmt, hmf⟩
      refine Cd.has hs ?_
      refine Cd.seq ?_
      refine Cd.region ?_
      refine Ol.p lsi ?_
      refine Ol.nil ?_
      refine Cd.seq ?_
      refine Cd.cond rfl (fun h => ?_) (fun h => ?_)   -- $54
      · have hlt : k < n := by
          simp only [decide_eq_true_eq] at h; omega
        have hle : (k + 1) * 201 ≤ n * 201 := Nat.mul_le_mul_right _ hlt
        obtain ⟨b, hb⟩ : ∃ b, f.blocks[k]? = some b := ⟨_, List.getElem?_eq_getElem (by omega)⟩
        have hbm := List.mem_of_getElem? hb
        have hba := hf.blk hfit hbm
        have hbl := hba.len
        refine Cd.skip ?_
        refine Cd.seq ?_
        refine Cd.block ?_   -- 7
        refine Cd.seq ?_
        refine Cd.region ?_
        refine Ol.p mvi ?_
        refine Ol.p (ixn (ix := k) sl_L_api_Block (Som.slc hf.blocks (by omega))) ?_
        refine Ol.p (lds (es := b.cells) ag_api_Block hf.blocks b.len (fun j u hu => blk_cell hb hu)) ?_
        refine Ol.x (alc zr_api_Block) ?_
        rintro _ _ ⟨g9, rfl, rfl⟩
        refine Ol.p asi ?_
        refine Ol.s (stw sz_api_Block rfl b.one (i := 0) rfl rfl) ?_
        refine Ol.nil ?_
        refine Cd.seq ?_
        refine Cd.region ?_
        refine Ol.p mvs ?_
        refine Ol.p mvi ?_
        refine Ol.p (ixi (ix := k) sl_L_ir_set) ?_
        refine Ol.p (ldp (k := k * 201) (vs := encV (J k)) ag_ir_set (i := 1) rfl (encV_size _) (inA_load hlt)) ?_
        refine Ol.x (alc zr_ir_set) ?_
        rintro _ _ ⟨g10, rfl, rfl⟩
        refine Ol.s (stw sz_ir_set (encV_size _) (encV_one _) (i := 0) rfl rfl) ?_
        refine Ol.nil ?_
        refine Cd.mid (fun σ' L' => Has σ' [(1, .pointer (some ⟨g1, 0, none⟩)), (3, .slice (some ⟨gi, 0, none⟩) n n), (7, .bool mv), (9, .pointer (some ⟨g9, 0, none⟩)), (10, .pointer (some ⟨g10, 0, none⟩)), (51, .slice f.bA f.blocks.length f.bC), (52, .int .i64 n), (53, .int .i64 k)] ∧ [blk g10 (.cells (encV (outV b.ins (J k))) 128), blk g9 (.cells b.cells.toArray 50), blk gi (.cells (inA n J) 128), LF] = L') ?_ ?_
        · refine Cd.seq ?_
          refine Cd.region ?_
          refine Ol.p (fdl fd_api_Block_0) ?_
          refine Ol.p (ld one_L_api_Ins (Rd.blk (i := 1) rfl rfl)) ?_
          refine Ol.p (lens sl_L_api_Ins) ?_
          refine Ol.p mvi ?_
          refine Ol.nil ?_
          refine Cd.block ?_   -- 8
          refine Cd.loop (fun m σ L => ∃ j, m = b.ins.length - j ∧ j ≤ b.ins.length ∧ Has σ [(1, .pointer (some ⟨g1, 0, none⟩)), (3, .slice (some ⟨gi, 0, none⟩) n n), (7, .bool mv), (9, .pointer (some ⟨g9, 0, none⟩)), (10, .pointer (some ⟨g10, 0, none⟩)), (51, .slice f.bA f.blocks.length f.bC), (52, .int .i64 n), (53, .int .i64 k), (63, .slice b.iA b.ins.length b.iC), (64, .int .i64 b.ins.length), (65, .int .i64 j)] ∧ [blk g10 (.cells (encV (outV (b.ins.take j) (J k))) 128), blk g9 (.cells b.cells.toArray 50), blk gi (.cells (inA n J) 128), LF] = L) (n := b.ins.length) ⟨0, rfl, Nat.zero_le _, ⟨rfl, rfl, rfl, rfl, rfl, rfl, rfl, rfl, rfl, rfl, rfl, trivial⟩, rfl⟩ ?_
          clear hs
          rintro _ σ L ⟨j, rfl, hj, hs, rfl⟩
          refine Cd.has hs ?_
          refine Cd.seq ?_
          refine Cd.region ?_
          refine Ol.p lsi ?_
          refine Ol.nil ?_
          refine Cd.seq ?_
          refine Cd.cond rfl (fun h => ?_) (fun h => ?_)   -- $66
          · have hjl : j < b.ins.length := by
              simp only [decide_eq_true_eq] at h; omega
            obtain ⟨i, hi⟩ : ∃ i, b.ins[j]? = some i := ⟨_, List.getElem?_eq_getElem hjl⟩
            have hia := hba.all i (List.mem_of_getElem? hi)
            have hdef := defI_range i
            obtain ⟨dn, hdn⟩ : ∃ dn : Nat, defI i = (dn : Int) := ⟨(defI i).toNat, by omega⟩
            have hdn2 : dn < 201 := by omega
            refine Cd.skip ?_
            refine Cd.seq ?_
            refine Cd.block ?_   -- 9
            refine Cd.seq ?_
            refine Cd.region ?_
            refine Ol.p (ixn sl_L_api_Ins (Som.slc hba.ins (by omega))) ?_
            refine Ol.p (lds (es := i.cells) ag_api_Ins hba.ins i.len (fun j u hu => ins_cell hi hu)) ?_
            refine Ol.x (alc zr_api_Ins) ?_
            rintro _ _ ⟨g12, rfl, rfl⟩
            refine Ol.s (stw sz_api_Ins rfl i.one (i := 0) rfl rfl) ?_
            refine Ol.nil ?_
            refine Cd.region ?_
            refine Ol.p (ldw ag_api_Ins (i := 0) rfl rfl) ?_
            refine Ol.s (cl en_ir_Defines (fun M w' hh => ir_Defines_ct (hia.now hh))) ?_
            refine Ol.p (ixl1 (ix := dn) ar_ir_set (hy := congrArg (Value.int .i64) hdn)) ?_
            refine Ol.s (sto (k := dn) (.inr sz_bool) rfl rfl (i := 1) rfl (by rw [encV_size]; exact hdn2) rfl) ?_
            refine Ol.keep (.sub (.cons _ (List.Sublist.refl _))) ?_
            refine Ol.nil ?_
            refine Cd.region ?_
            refine Ol.p addi ?_
            refine Ol.p mvi ?_
            refine Ol.nil ?_
            refine ⟨b.ins.length - (j + 1), by omega, j + 1, rfl, by omega, ⟨rfl, rfl, rfl, rfl, rfl, rfl, rfl, rfl, rfl, rfl, rfl, trivial⟩, ?_⟩
            rw [outV_snoc hi, hdn, Int.toNat_natCast]
            exact congrArg (fun cs => [blk g10 (.cells cs 128), blk g9 (.cells b.cells.toArray 50), blk gi (.cells (inA n J) 128), LF]) encV_set.symm
          have hj2 : j = b.ins.length := by
            simp only [decide_eq_false_iff_not] at h; omega
          subst hj2
          rw [List.take_length]
          refine Cd.exit (id := 8) ?_
          exact ⟨⟨rfl, rfl, rfl, rfl, rfl, rfl, rfl, rfl, trivial⟩, rfl⟩
        rintro σ' _ ⟨hs', rfl⟩
        refine Cd.has hs' ?_
        clear hs'
        obtain ⟨O, hO⟩ : ∃ O, O = outV b.ins (J k) := ⟨_, rfl⟩
        have hOut := hVJ.out (a := k) (x := b)
        rw [← hO] at hOut ⊢
        refine Cd.seq ?_
        refine Cd.region ?_
        refine Ol.p (fdl fd_api_Block_1) ?_
        refine Ol.p (ldp (k := 0 + 1) (vs := b.term.cells.toArray) ag_api_Term (i := 1) rfl rfl (fun j u hu => by rw [Nat.zero_add, Nat.add_comm]; simpa [RBlk.cells] using hu)) ?_
        refine Ol.x (sp_call en_ir_To (fun M w' hh => ir_To_ct (t := b.term))) ?_
        rintro _ _ ⟨_, rfl, A75, c75, rfl, rfl⟩
        refine Ol.p (lens sl_L_int) ?_
        refine Ol.p mvi ?_
        refine Ol.nil ?_
        have htb := hto k b hb
        obtain ⟨to, hto2⟩ : ∃ to, to = toL b.term := ⟨_, rfl⟩
        have htoL := toL_len b.term
        rw [← hto2] at htoL htb ⊢
        refine Cd.block ?_   -- 10
        refine Cd.loop (fun m σ L => ∃ (j : Nat) (K : IV) (mv2 : Bool), m = to.length - j ∧ j ≤ to.length ∧ Has σ [(1, .pointer (some ⟨g1, 0, none⟩)), (3, .slice (some ⟨gi, 0, none⟩) n n), (7, .bool mv2), (10, .pointer (some ⟨g10, 0, none⟩)), (51, .slice f.bA f.blocks.length f.bC), (52, .int .i64 n), (53, .int .i64 k), (75, .slice A75 to.length c75), (76, .int .i64 to.length), (77, .int .i64 j)] ∧
          [row (.slice A75 to.length c75) 3 1 to.length (ints to), blk g10 (.cells (encV O) 128), blk g9 (.cells b.cells.toArray 50), blk gi (.cells (inA n K) 128), LF] = L ∧ Val f K ∧ (mv2 = true → muI n K < muI n I) ∧ (mv2 = false → mv = false ∧ K = J ∧ ∀ m ∈ to.take j, Stab J O m.toNat)) (n := to.length) ⟨0, J, mv, rfl, Nat.zero_le _, ⟨rfl, rfl, rfl, rfl, rfl, rfl, rfl, rfl, rfl, rfl, trivial⟩, rfl, hVJ, hmt, fun h => ⟨h, rfl, by simp⟩⟩ ?_
        clear hs
        rintro _ σ L ⟨j, K, mv2, rfl, hj, hs, rfl, hVK, hkt, hkf⟩
        refine Cd.has hs ?_
        refine Cd.seq ?_
        refine Cd.region ?_
        refine Ol.p lsi ?_
        refine Ol.nil ?_
        refine Cd.seq ?_
        refine Cd.cond rfl (fun h => ?_) (fun h => ?_)   -- $78
        · have hjl : j < to.length := by
            simp only [decide_eq_true_eq] at h; omega
          obtain ⟨m, hm⟩ : ∃ m, to[j]? = some m := ⟨_, List.getElem?_eq_getElem hjl⟩
          have hmm := List.mem_of_getElem? hm
          have hmr := htb m hmm
          obtain ⟨q, rfl⟩ : ∃ q : Nat, m = (q : Int) := ⟨m.toNat, by omega⟩
          have hqn : q < n := by omega
          have hqle : (q + 1) * 201 ≤ n * 201 := Nat.mul_le_mul_right _ hqn
          refine Cd.skip ?_
          refine Cd.mid (fun σ' L' => ∃ (K : IV) (mv2 : Bool), Has σ' [(1, .pointer (some ⟨g1, 0, none⟩)), (3, .slice (some ⟨gi, 0, none⟩) n n), (7, .bool mv2), (10, .pointer (some ⟨g10, 0, none⟩)), (51, .slice f.bA f.blocks.length f.bC), (52, .int .i64 n), (53, .int .i64 k), (75, .slice A75 to.length c75), (76, .int .i64 to.length), (77, .int .i64 j)] ∧
            [row (.slice A75 to.length c75) 3 1 to.length (ints to), blk g10 (.cells (encV O) 128), blk g9 (.cells b.cells.toArray 50), blk gi (.cells (inA n K) 128), LF] = L' ∧ Val f K ∧ (mv2 = true → muI n K < muI n I) ∧ (mv2 = false → mv = false ∧ K = J ∧ ∀ m ∈ to.take (j + 1), Stab J O m.toNat)) ?_ ?_
          · refine Cd.block ?_   -- 11
            refine Cd.seq ?_
            refine Cd.region ?_
            refine Ol.p (ixn1 (ix := j) sl_L_int (Som.row (i := 0) rfl (by omega))) ?_
            refine Ol.p (ld one_int (Rd.row (i := 0) rfl (ints_at hm))) ?_
            refine Ol.p asi ?_
            refine Ol.nil ?_
            refine Cd.seq ?_
            obtain ⟨nx, hnx⟩ : ∃ nx : VS, nx = fun v => K q v && O v := ⟨_, rfl⟩
            refine Cd.draw mixed 7 (fun opNo => match opNo with | 5 => some (Is (.agg (encV nx))) | 6 => some (NewPv (.cells (Array.replicate 201 (.bool false)) 128)) | _ => none) (fun _ => []) (by kernel_rfl) (by intro q V h; split at h <;> cases h; exact ⟨_, [], rfl, rfl⟩; exact ⟨_, _, 0, rfl, rfl⟩) (fun u hu => ?_)
            refine Wk.p mvs ?_
            refine Wk.p mvi ?_
            refine Wk.p (ixi (ix := q) sl_L_ir_set) ?_
            refine Wk.p (ldp (k := q * 201) (vs := encV (K q)) ag_ir_set (i := 3) rfl (encV_size _) (inA_load hqn)) ?_
            refine Wk.p (ldw ag_ir_set (i := 1) rfl (encV_size _)) ?_
            refine Wk.x (V := Is (.agg (encV nx))) hu (by rw [hnx]; exact sp_call en_ir_set_meet (fun M w' hh => ir_set_meet_ct)) ?_
            rintro _ _ hu5 ⟨rfl, rfl⟩
            refine Wk.x (V := NewPv (.cells (Array.replicate 201 (.bool false)) 128)) hu (NewP.adds (alc zr_ir_set)) ?_
            rintro _ _ hu6 ⟨g15, rfl, rfl⟩
            refine Wk.nil ?_
            rw [needs_cons hu6, needs_cons hu5, needs_none]
            refine Ol.s (stw sz_ir_set (encV_size _) (encV_one _) (i := 0) rfl rfl) ?_
            refine Ol.nil ?_
            refine Cd.seq ?_
            refine Cd.draw mixed 6 (fun _ => none) (fun _ => []) (by kernel_rfl) (fun _ _ h => by cases h) (fun u hu => ?_)
            refine Wk.p (ldw ag_ir_set (i := 0) rfl (encV_size _)) ?_
            refine Wk.p mvs ?_
            refine Wk.p mvi ?_
            refine Wk.p (ixi (ix := q) sl_L_ir_set) ?_
            refine Wk.p (ldp (k := q * 201) (vs := encV (K q)) ag_ir_set (i := 4) rfl (encV_size _) (inA_load hqn)) ?_
            refine Wk.p (nea cm_ir_set (encV_size _) (encV_size _) encV_tell (sameV_iff (s := nx) (t := K q))) ?_
            refine Wk.nil ?_
            refine Ol.nil ?_
            have hle2 : ∀ v, v < 201 → nx v = true → K q v = true := fun v _ h => by
              rw [hnx] at h
              exact (Bool.and_eq_true_iff.1 h).1
            refine Cd.cond rfl (fun h2 => ?_) (fun h2 => ?_)   -- $92
            · have hns : sameV nx (K q) = false := by simpa using h2
              have hmu : muI n (setI K q nx) < muI n K := by
                refine muI_set hqn ?_
                unfold sameV at hns
                rw [List.all_eq_false] at hns
                obtain ⟨v, hv, h3⟩ := hns
                have hv : v < 201 := by simpa using hv
                have h3 : nx v ≠ K q v := by simpa using h3
                have h4 := hle2 v hv
                cases h5 : nx v with
                | true => rw [h5] at h3 h4; exact absurd (h4 rfl).symm h3
                | false =>
                  cases h6 : K q v with
                  | false => rw [h5, h6] at h3; exact absurd rfl h3
                  | true => exact cntB_lt hle2 hv h5 h6
              refine Cd.region ?_
              refine Ol.p mvs ?_
              refine Ol.p mvi ?_
              refine Ol.p (ldw ag_ir_set (i := 0) rfl (encV_size _)) ?_
              refine Ol.p (ixi (ix := q) sl_L_ir_set) ?_
              refine Ol.s (sta (k := q * 201) sz_ir_set (encV_size _) (encV_one _) (i := 4) rfl (by rw [inA_size]; omega)) ?_
              refine Ol.p asb ?_
              refine Ol.keep (.sub (.cons _ (List.Sublist.refl _))) ?_
              refine Ol.nil ?_
              refine ⟨setI K q nx, true, ⟨rfl, rfl, rfl, rfl, rfl, rfl, rfl, rfl, rfl, rfl, trivial⟩, congrArg (fun cs => [row (.slice A75 to.length c75) 3 1 to.length (ints to), blk g10 (.cells (encV O) 128), blk g9 (.cells b.cells.toArray 50), blk gi (.cells cs 128), LF]) (inA_sta hqn).symm, ?_, fun _ => ?_, fun h => by cases h⟩
              · rw [hnx]
                exact hVK.turn hb (by rw [← hto2]; exact hmm) (by omega) hOut
              · cases hmv : mv2 with
                | true => have := hkt hmv; omega
                | false =>
                  obtain ⟨h7, h8, _⟩ := hkf hmv
                  have h9 := (hmf h7).1
                  rw [h8, h9] at hmu
                  rw [h8, h9]; exact hmu
            have hss : sameV nx (K q) = true := by simpa using h2
            refine Cd.keep (.sub (.cons _ (List.Sublist.refl _))) ?_
            refine Cd.skip ?_
            refine ⟨K, mv2, ⟨rfl, rfl, rfl, rfl, rfl, rfl, rfl, rfl, rfl, rfl, trivial⟩, rfl, hVK, hkt, fun h => ?_⟩
            obtain ⟨h7, h8, h9⟩ := hkf h
            refine ⟨h7, h8, fun m hm2 => ?_⟩
            rw [take_snoc_ hm] at hm2
            rcases List.mem_append.1 hm2 with h3 | h3
            · exact h9 m h3
            · have e : m = (q : Int) := by simpa using h3
              subst e
              rw [Int.toNat_natCast]
              intro v hv hJ
              have h10 := sameV_at hss hv
              rw [hnx] at h10
              rw [h8] at h10
              have h10 : (J q v && O v) = J q v := h10
              rw [hJ, Bool.true_and] at h10
              exact h10
          rintro σ' _ ⟨K, mv2, hs', rfl, hVK, hkt, hkf⟩
          refine Cd.has hs' ?_
          refine Cd.region ?_
          refine Ol.p addi ?_
          refine Ol.p mvi ?_
          refine Ol.nil ?_
          exact ⟨to.length - (j + 1), by omega, j + 1, K, mv2, rfl, by omega, ⟨rfl, rfl, rfl, rfl, rfl, rfl, rfl, rfl, rfl, rfl, trivial⟩, rfl, hVK, hkt, hkf⟩
        have hj2 : j = to.length := by
          simp only [decide_eq_false_iff_not] at h; omega
        subst hj2
        rw [List.take_length] at hkf
        refine Cd.exit (id := 10) ?_
        refine Cd.keep (.sub (.cons _ (.cons _ (.cons _ (List.Sublist.refl _))))) ?_
        refine Cd.region ?_
        refine Ol.p addi ?_
        refine Ol.p mvi ?_
        refine Ol.nil ?_
        refine ⟨n - (k + 1), by omega, k + 1, K, mv2, rfl, by omega, ⟨rfl, rfl, rfl, rfl, rfl, rfl, trivial⟩, rfl, hVK, hkt, fun h => ?_⟩
        obtain ⟨h7, h8, h9⟩ := hkf h
        obtain ⟨h10, h11⟩ := hmf h7
        refine ⟨h8.trans h10, fun a x ha hx t ht => ?_⟩
        by_cases e : a = k
        · subst e
          rw [hb] at hx
          cases hx
          have := h9 (t : Int) (by rw [hto2]; exact ht)
          rw [hO, h10, Int.toNat_natCast] at this
          exact this
        · exact h11 a x (by omega) hx t ht
      have hk2 : k = n := by
        simp only [decide_eq_false_iff_not] at h; omega
      subst hk2
      refine Cd.exit (id := 6) ?_
      refine ⟨muI k J + (if mv = true then 1 else 0), ?_, J, mv, rfl, hVJ, fun h a x hx t ht => ?_, ⟨rfl, rfl, rfl, trivial⟩, by rw [hLF]⟩
      · cases hmv : mv with
        | true => have := hmt hmv; simp only [if_true]; omega
        | false => have := (hmf hmv).1; rw [this]; simp
      · obtain ⟨h10, h11⟩ := hmf h
        rw [h10]
        exact h11 a x (by rw [hn]; exact (List.getElem?_eq_some_iff.1 hx).1) hx t ht
    refine Cd.exit (id := 4) ?_
    exact ⟨⟨rfl, rfl, trivial⟩, I, fun b v hv => hV.fin (hst h) hv, rfl⟩
  rintro σ' _ ⟨hs', I, hI, rfl⟩
  refine Cd.has hs' ?_
  clear hs'
  have hval := valued_of hI
  refine Cd.seq ?_
  refine Cd.seq ?_
  rw [hLF]
  refine Cd.region ?_
  refine Ol.p (fdl fd_api_Func_1) ?_
  refine Ol.p (ld one_L_api_Block (Rd.blk (i := 1) rfl rfl)) ?_
  refine Ol.p (lens sl_L_api_Block) ?_
  refine Ol.p mvi ?_
  refine Ol.nil ?_
  refine Cd.block ?_   -- 12
  refine Cd.loop (fun m σ L => ∃ k, m = n - k ∧ k ≤ n ∧ Has σ [(3, .slice (some ⟨gi, 0, none⟩) n n), (100, .slice f.bA f.blocks.length f.bC), (101, .int .i64 n), (102, .int .i64 k)] ∧ [blk gi (.cells (inA n I) 128), LF] = L ∧ ∀ (b : Nat) (x : RBlk), b < k → f.blocks[b]? = some x → okPast x.ins x.term (I b) = true) (n := n) ⟨0, rfl, Nat.zero_le _, ⟨rfl, rfl, by rw [hn]; rfl, rfl, trivial⟩, by rw [hLF], fun b x hb => by omega⟩ ?_
  rintro _ σ L ⟨k, rfl, hk, hs, rfl, hall⟩
  refine Cd.has hs ?_
  refine Cd.seq ?_
  refine Cd.region ?_
  refine Ol.p lsi ?_
  refine Ol.nil ?_
  refine Cd.seq ?_
  refine Cd.cond rfl (fun h => ?_) (fun h => ?_)   -- $103
  · have hlt : k < n := by
      simp only [decide_eq_true_eq] at h; omega
    obtain ⟨b, hb⟩ : ∃ b, f.blocks[k]? = some b := ⟨_, List.getElem?_eq_getElem (by omega)⟩
    have hba := hf.blk hfit (List.mem_of_getElem? hb)
    refine Cd.skip ?_
    refine Cd.seq ?_
    refine Cd.block ?_   -- 13
    refine Cd.seq ?_
    refine Cd.region ?_
    refine Ol.p mvi ?_
    refine Ol.p (ixn (ix := k) sl_L_api_Block (Som.slc hf.blocks (by omega))) ?_
    refine Ol.p (lds (es := b.cells) ag_api_Block hf.blocks b.len (fun j u hu => blk_cell hb hu)) ?_
    refine Ol.x (alc zr_api_Block) ?_
    rintro _ _ ⟨g17, rfl, rfl⟩
    refine Ol.p asi ?_
    refine Ol.s (stw sz_api_Block rfl b.one (i := 0) rfl rfl) ?_
    refine Ol.nil ?_
    refine Cd.seq ?_
    refine Cd.drawT (L0 := [blk g17 (.cells b.cells.toArray 50), blk gi (.cells (inA n I) 128), LF]) mixed 11 (fun opNo => match opNo with | 5 => some (fun v R => ∃ s', v = .tuple #[.agg (encV s'), .bool (okPast b.ins b.term (I k))] ∧ R = []) | 9 => some (NewPv (.cells (Array.replicate 201 (.bool false)) 128)) | 10 => some (fun v R => v = undef ∧ ∃ g cs, R = [blk g (.cells cs 128)]) | _ => none) (fun opNo => match opNo with | 10 => [9] | _ => []) (fun opNo => match opNo with | 10 => some 9 | _ => none) [] (fun _ => []) (by kernel_rfl) (.refl _) (by intro c hc; cases hc) (by intro q V h; split at h <;> cases h; exact ⟨_, _, fun _ => false, rfl, rfl⟩; exact ⟨_, _, 0, rfl, rfl⟩; exact ⟨_, _, rfl, 0, #[], rfl⟩) (fun u hu hu0 => ?_)
    refine WkT.p mvs ?_
    refine WkT.p mvi ?_
    refine WkT.p (ixi (ix := k) sl_L_ir_set) ?_
    refine WkT.p (ldp (k := k * 201) (vs := encV (I k)) ag_ir_set (i := 1) rfl (encV_size _) (inA_load hlt)) ?_
    refine WkT.p (ldw ag_api_Block (i := 0) rfl rfl) ?_
    refine WkT.xn (V := fun v R => ∃ s', v = .tuple #[.agg (encV s'), .bool (okPast b.ins b.term (I k))] ∧ R = []) (l := []) (l2 := []) hu rfl rfl rfl (by rw [needs_none]; exact (sp_call en_ir_set_past (fun M w' hh => ir_set_past_ct (s := I k) (hba.now hh)))) ?_
    rintro _ _ hu5 ⟨s5, rfl, rfl⟩
    refine WkT.p mvt ?_
    refine WkT.p extv ?_
    refine WkT.p extv ?_
    refine WkT.xn (V := NewPv (.cells (Array.replicate 201 (.bool false)) 128)) (l := []) (l2 := []) hu rfl rfl rfl (by rw [needs_none]; exact (NewP.adds (alc zr_ir_set))) ?_
    rintro _ _ hu9 ⟨g18, rfl, rfl⟩
    refine WkT.xn (V := fun v R => v = undef ∧ ∃ g cs, R = [blk g (.cells cs 128)]) (l := [9]) (l2 := []) hu rfl rfl rfl (by rw [needs_cons hu9, needs_none]; exact (trn_any (stw sz_ir_set (encV_size _) (encV_one _) (i := 0) rfl rfl))) ?_
    rintro _ _ hu10 ⟨rfl, g18b, cs18, rfl⟩
    refine WkT.nil ?_
    change Ol _ _ _ _ _ (needs u [10, 5] _)
    rw [needs_cons hu10, needs_cons hu5, needs_none]
    refine Ol.p asb ?_
    refine Ol.nil ?_
    refine Cd.seq ?_
    refine Cd.region ?_
    refine Ol.p mvb ?_
    refine Ol.p noti ?_
    refine Ol.nil ?_
    refine Cd.cond rfl (fun h2 => ?_) (fun h2 => ?_)   -- $117
    · have h3 : okPast b.ins b.term (I k) = false := by simpa using h2
      refine Cd.seq ?_
      refine Cd.region ?_
      refine Ol.p asb ?_
      refine Ol.nil ?_
      refine Cd.ret ⟨.bool _, ret1 rfl rfl, [], .nil, ?_, rfl⟩
      have : valuedF f = false := by
        rw [hval, List.all_eq_false]
        refine ⟨k, by simp; omega, ?_⟩
        rw [hb]
        simp [h3]
      rw [this]
    have h3 : okPast b.ins b.term (I k) = true := by simpa using h2
    refine Cd.keep (.sub (.cons _ (.cons _ (List.Sublist.refl _)))) ?_
    refine Cd.skip ?_
    refine Cd.region ?_
    refine Ol.p addi ?_
    refine Ol.p mvi ?_
    refine Ol.nil ?_
    refine ⟨n - (k + 1), by omega, k + 1, rfl, by omega, ⟨rfl, rfl, rfl, rfl, trivial⟩, rfl, fun c x hc hx => ?_⟩
    by_cases e : c = k
    · subst e
      rw [hb] at hx; cases hx
      exact h3
    · exact hall c x (by omega) hx
  have hk2 : k = n := by
    simp only [decide_eq_false_iff_not] at h; omega
  subst hk2
  refine Cd.exit (id := 12) ?_
  refine Cd.seq ?_
  refine Cd.region ?_
  refine Ol.p asb ?_
  refine Ol.nil ?_
  refine Cd.ret ⟨.bool _, ret1 rfl rfl, [], .nil, ?_, rfl⟩
  have : valuedF f = true := by
    rw [hval, List.all_eq_true]
    intro b hb
    have hb : b < f.blocks.length := by simpa using hb
    have h3 := hall b _ (by omega) (List.getElem?_eq_getElem hb)
    rw [List.getElem?_eq_getElem hb]
    exact h3
  rw [this]
end
end Go.Proofs.Ytcojedoejpcolaa

/- The package ir: whether a function is right, walked. -/
namespace Go.Proofs.Ytcojedoejpcolaa
set_option linter.unusedVariables false
open Go Go.RowKit
set_option maxRecDepth 100000

noncomputable def rightF (f : RFun) : Int := bif longF f then 3 else bif !wholeF f then 2 else bif !okEs f.terms || decide ((orderF f.terms).length < f.blocks.length) then 9 else bif !valuedF f then 8 else 0
theorem rightF_iff {f : RFun} : rightF f = 0 ↔ longF f = false ∧ wholeF f = true ∧ okEs f.terms = true ∧ f.blocks.length ≤ (orderF f.terms).length ∧ valuedF f = true := by
  unfold rightF
  cases longF f <;> cases wholeF f <;> cases okEs f.terms <;> cases valuedF f <;> cases h : decide ((orderF f.terms).length < f.blocks.length) <;> simp_all
theorem long_parts {f : RFun} (h : longF f = false) : 0 < f.blocks.length ∧ f.blocks.length ≤ 200 ∧ f.params.length ≤ 8 ∧ ∀ b ∈ f.blocks, b.ins.length ≤ 64 := by
  unfold longF at h
  simp only [Bool.or_eq_false_iff, decide_eq_false_iff_not, List.any_eq_false] at h
  exact ⟨by omega, by omega, by omega, fun b hb => by have := h.2 b hb; simp at this; omega⟩
section
set_option maxHeartbeats 1000000 in
theorem ir_Right_ct {w : World} {f : RFun} (hf : FunAt w w.heap.size f) (hfit : Fit f) : Ct Try.prog 30 #[f.val] w (Is (.int .i64 (rightF f))) := by
  refine Ct.mk Try.func30 rfl rfl ?_
  refine Cd.seq ?_
  refine Cd.region ?_
  refine Ol.x bxg ?_
  rintro _ _ ⟨g1, rfl, rfl⟩
  refine Ol.p asi ?_
  refine Ol.nil ?_
  refine Cd.seq ?_
  refine Cd.seq ?_
  refine Cd.region ?_
  refine Ol.p (ldw ag_api_Func (i := 0) rfl rfl) ?_
  refine Ol.s (cl en_ir_long (fun M w' hh => ir_long_ct (hf.now hh) hfit)) ?_
  refine Ol.nil ?_
  refine Cd.cond rfl (fun hl => ?_) (fun hl => ?_)   -- $6
  · refine Cd.seq ?_
    refine Cd.region ?_
    refine Ol.p asi ?_
    refine Ol.nil ?_
    exact Cd.ret ⟨.int .i64 _, ret1 rfl rfl, [], .nil, by unfold rightF; rw [hl]; rfl, rfl⟩
  obtain ⟨h0, h200, _, _⟩ := long_parts hl
  refine Cd.skip ?_
  refine Cd.seq ?_
  refine Cd.seq ?_
  refine Cd.region ?_
  refine Ol.p (ldw ag_api_Func (i := 0) rfl rfl) ?_
  refine Ol.s (cl en_ir_whole (fun M w' hh => ir_whole_ct (hf.now hh) hfit)) ?_
  refine Ol.p noti ?_
  refine Ol.nil ?_
  refine Cd.cond rfl (fun hw => ?_) (fun hw => ?_)   -- $9
  · refine Cd.seq ?_
    refine Cd.region ?_
    refine Ol.p asi ?_
    refine Ol.nil ?_
    exact Cd.ret ⟨.int .i64 _, ret1 rfl rfl, [], .nil, by unfold rightF; rw [hl, hw]; rfl, rfl⟩
  have hwt : wholeF f = true := by simpa using hw
  have e1 : rightF f = bif !okEs f.terms || decide ((orderF f.terms).length < f.blocks.length) then 9 else bif !valuedF f then 8 else 0 := by unfold rightF; rw [hl, hw]; rfl
  refine Cd.skip ?_
  refine Cd.seq ?_
  cases hok : okEs f.terms with
  | false =>
    refine Cd.seq ?_
    refine Cd.region ?_
    refine Ol.p (ldw ag_api_Func (i := 0) rfl rfl) ?_
    refine Ol.s (cl en_ir_reach (fun M w' hh => ir_reach_ct (hf.now hh) hfit h0 h200)) ?_
    refine Ol.p (mv (by rw [hok])) ?_
    refine Ol.p extv ?_
    refine Ol.p extv ?_
    refine Ol.p asi ?_
    refine Ol.p asb ?_
    refine Ol.nil ?_
    refine Cd.seq ?_
    refine Cd.region ?_
    refine Ol.p mvb ?_
    refine Ol.p noti ?_
    refine Ol.p mvb ?_
    refine Ol.gn rfl ?_
    refine Ol.gn rfl ?_
    refine Ol.gn rfl ?_
    refine Ol.gn rfl ?_
    refine Ol.gn rfl ?_
    refine Ol.p (pkTb rfl) ?_
    refine Ol.nil ?_
    refine Cd.cond rfl (fun h => ?_) (fun h => by cases h)   -- $23
    refine Cd.seq ?_
    refine Cd.region ?_
    refine Ol.p asi ?_
    refine Ol.nil ?_
    exact Cd.ret ⟨.int .i64 _, ret1 rfl rfl, [], .nil, by rw [e1, hok]; rfl, rfl⟩
  | true =>
    have e2 : decide (((orderF f.terms).length : Int) < (f.blocks.length : Int)) = decide ((orderF f.terms).length < f.blocks.length) := by rw [decide_eq_decide]; omega
    refine Cd.seq ?_
    refine Cd.region ?_
    refine Ol.p (ldw ag_api_Func (i := 0) rfl rfl) ?_
    refine Ol.s (cl en_ir_reach (fun M w' hh => ir_reach_ct (hf.now hh) hfit h0 h200)) ?_
    refine Ol.p (mv (by rw [hok])) ?_
    refine Ol.p extv ?_
    refine Ol.p extv ?_
    refine Ol.p asi ?_
    refine Ol.p asb ?_
    refine Ol.nil ?_
    refine Cd.seq ?_
    refine Cd.region ?_
    refine Ol.p mvb ?_
    refine Ol.p noti ?_
    refine Ol.p mvb ?_
    refine Ol.gp rfl mvi ?_
    refine Ol.gp rfl (fdl fd_api_Func_1) ?_
    refine Ol.gp rfl (ld one_L_api_Block (Rd.blk (i := 0) rfl rfl)) ?_
    refine Ol.gp rfl (lens sl_L_api_Block) ?_
    refine Ol.gp rfl lsi ?_
    refine Ol.p (pkFb rfl) ?_
    refine Ol.nil ?_
    rw [e2]
    refine Cd.cond rfl (fun h => ?_) (fun h => ?_)   -- $23
    · refine Cd.seq ?_
      refine Cd.region ?_
      refine Ol.p asi ?_
      refine Ol.nil ?_
      exact Cd.ret ⟨.int .i64 _, ret1 rfl rfl, [], .nil, by rw [e1, hok, h]; rfl, rfl⟩
    refine Cd.skip ?_
    refine Cd.seq ?_
    refine Cd.seq ?_
    refine Cd.region ?_
    refine Ol.p (ldw ag_api_Func (i := 0) rfl rfl) ?_
    refine Ol.s (cl en_ir_valued (fun M w' hh => ir_valued_ct (hf.now hh) hfit hl hwt hok)) ?_
    refine Ol.p noti ?_
    refine Ol.nil ?_
    refine Cd.cond rfl (fun h2 => ?_) (fun h2 => ?_)   -- $26
    · refine Cd.seq ?_
      refine Cd.region ?_
      refine Ol.p asi ?_
      refine Ol.nil ?_
      exact Cd.ret ⟨.int .i64 _, ret1 rfl rfl, [], .nil, by rw [e1, hok, h, h2]; rfl, rfl⟩
    refine Cd.skip ?_
    refine Cd.seq ?_
    refine Cd.region ?_
    refine Ol.p asi ?_
    refine Ol.nil ?_
    exact Cd.ret ⟨.int .i64 _, ret1 rfl rfl, [], .nil, by rw [e1, hok, h, h2]; rfl, rfl⟩
end
end Go.Proofs.Ytcojedoejpcolaa

/- Functions told by what they hold, not where: plain laws. -/
namespace Go.Proofs.Ytcojedoejpcolaa
set_option linter.unusedVariables false
open Go Go.RowKit

def RIns.bare (i : RIns) : RIns := { i with aA := none, aC := 0 }
def RBlk.bare (b : RBlk) : RBlk := { b with iA := none, iC := 0, ins := b.ins.map RIns.bare }
def RFun.bare (f : RFun) : RFun := { f with pA := none, pC := 0, bA := none, bC := 0, blocks := f.blocks.map RBlk.bare }
theorem isIns_bare (i : RIns) : isIns i.bare = isIns i := rfl
theorem readsL_bare (i : RIns) : readsL i.bare = readsL i := rfl
theorem defI_bare (i : RIns) : defI i.bare = defI i := rfl
theorem exposed_bare : ∀ (l : List RIns) (t : Tm) (v : Int), exposed (l.map RIns.bare) t v = exposed l t v
  | [], _, _ => rfl
  | i :: l, t, v => by
    show ((readsL i.bare).contains v || (!decide (defI i.bare = v) && exposed (l.map RIns.bare) t v)) = _
    rw [exposed_bare l t v]; rfl
theorem terms_bare (f : RFun) : f.bare.terms = f.terms := by
  unfold RFun.terms RFun.bare
  rw [List.map_map]
  rfl
theorem longF_bare (f : RFun) : longF f.bare = longF f := by
  unfold longF RFun.bare
  simp only [List.length_map, List.any_map]
  congr 1
  apply congrArg
  funext b
  simp [Function.comp, RBlk.bare]
theorem wholeF_bare (f : RFun) : wholeF f.bare = wholeF f := by
  unfold wholeF RFun.bare
  simp only [List.all_map]
  congr 1
  apply congrArg
  funext b
  simp only [Function.comp, wholeB, RBlk.bare, List.all_map]
  rfl
theorem blk_bare {f : RFun} {b : Nat} {x : RBlk} (h : f.blocks[b]? = some x) : f.bare.blocks[b]? = some x.bare := by
  unfold RFun.bare
  rw [List.getElem?_map, h]; rfl
theorem blk_unbare {f : RFun} {b : Nat} {x : RBlk} (h : f.bare.blocks[b]? = some x) : ∃ y, f.blocks[b]? = some y ∧ x = y.bare := by
  unfold RFun.bare at h
  rw [List.getElem?_map] at h
  cases hb : f.blocks[b]? with
  | none => rw [hb] at h; cases h
  | some y => rw [hb] at h; exact ⟨y, rfl, (Option.some.inj h).symm⟩
theorem Bare_bare {f : RFun} {v b : Nat} : Bare f.bare v b ↔ Bare f v b := by
  constructor
  · intro h
    induction h with
    | zero hp => exact .zero hp
    | step _ ha hd ht ih =>
      obtain ⟨y, hy, rfl⟩ := blk_unbare ha
      exact .step ih hy (fun i hi => hd i.bare (List.mem_map_of_mem hi)) ht
  · intro h
    induction h with
    | zero hp => exact .zero hp
    | step _ ha hd ht ih =>
      refine .step ih (blk_bare ha) (fun i hi => ?_) ht
      obtain ⟨j, hj, rfl⟩ := List.mem_map.1 hi
      exact hd j hj
theorem valuedF_bare (f : RFun) : valuedF f.bare = valuedF f := by
  rw [Bool.eq_iff_iff, valuedF_iff, valuedF_iff]
  constructor
  · intro h b x v hx he hb
    exact h b x.bare v (blk_bare hx) (by show exposed (x.ins.map RIns.bare) x.term v = true; rw [exposed_bare]; exact he) (Bare_bare.2 hb)
  · intro h b x v hx he hb
    obtain ⟨y, hy, rfl⟩ := blk_unbare hx
    exact h b y v hy (by rw [← exposed_bare]; exact he) (Bare_bare.1 hb)
theorem rightF_bare (f : RFun) : rightF f.bare = rightF f := by
  unfold rightF
  rw [longF_bare, wholeF_bare, terms_bare, valuedF_bare]
  unfold RFun.bare
  simp
theorem rightF_same {f g : RFun} (h : g.bare = f.bare) : rightF g = rightF f := by rw [← rightF_bare, h, rightF_bare]
theorem bare_lens {f g : RFun} (h : g.bare = f.bare) : g.params = f.params ∧ g.blocks.length = f.blocks.length := by
  have h1 := congrArg RFun.params h
  have h2 := congrArg (fun x : RFun => x.blocks.length) h
  simp [RFun.bare] at h1 h2
  exact ⟨h1, h2⟩
end Go.Proofs.Ytcojedoejpcolaa

/- Lists of resources told apart by counting. -/
namespace Go.Proofs.Ytcojedoejpcolaa
theorem perm_count {α : Type} {l l' : List α} (h : ∀ (_ : DecidableEq α) (x : α), l.count x = l'.count x) : l.Perm l' := by
  haveI : DecidableEq α := fun a b => Classical.propDecidable (a = b)
  exact List.perm_iff_count.2 fun x => h _ x
theorem keep_count {L L' : List Res} (D : List Res) (h : ∀ (_ : DecidableEq Res) (x : Res), L.count x = (L' ++ D).count x) : Keep L L' := ⟨D, perm_count h⟩
end Go.Proofs.Ytcojedoejpcolaa

/- The package ir: a function's variables, its size, walked. -/
namespace Go.Proofs.Ytcojedoejpcolaa
set_option linter.unusedVariables false
open Go Go.RowKit
set_option maxRecDepth 100000

/-- What is noted of an instruction, of a block, of a function. -/
def noteI (i : RIns) : List Int := readsL i ++ [defI i]
def noteB (b : RBlk) : List Int := b.ins.flatMap noteI ++ needsL b.term
def noteF (f : RFun) : List Int := f.params ++ f.blocks.flatMap noteB
def noS : VS := fun _ => false
theorem putsV_app (S : VS) (a b : List Int) : putsV S (a ++ b) true = putsV (putsV S a true) b true := by
  unfold putsV; rw [List.foldl_append]
theorem putsV_snoc (S : VS) (a : List Int) (n : Int) : putsV S (a ++ [n]) true = putV (putsV S a true) n.toNat true := by
  rw [putsV_app]; rfl
theorem putsV_iff {l : List Int} {S : VS} {v : Nat} : putsV S l true v = true ↔ S v = true ∨ ∃ n ∈ l, n.toNat = v := by
  induction l generalizing S with
  | nil => simp [putsV]
  | cons n l ih =>
    show putsV (putV S n.toNat true) l true v = true ↔ _
    rw [ih]
    have : putV S n.toNat true v = true ↔ S v = true ∨ n.toNat = v := by
      unfold putV
      by_cases e : v = n.toNat
      · rw [if_pos e]; simp [e]
      · rw [if_neg e]
        exact ⟨.inl, fun h => h.elim id fun h => absurd h.symm e⟩
    rw [this]
    simp only [List.mem_cons, exists_eq_or_imp]
    exact or_assoc
def varsTo (S : VS) (k : Nat) : List Nat := (List.range' 1 k).filter S
theorem varsTo_succ (S : VS) (k : Nat) : varsTo S (k + 1) = varsTo S k ++ (if S (k + 1) then [k + 1] else []) := by
  unfold varsTo
  rw [List.range'_concat, List.filter_append]
  congr 1
  rw [Nat.one_mul, Nat.add_comm 1 k]
  cases h : S (k + 1) <;> simp [h]
theorem varsTo_len (S : VS) (k : Nat) : (varsTo S k).length ≤ k := by
  unfold varsTo
  exact Nat.le_trans (List.length_filter_le _ _) (by simp)
def okF (f : RFun) : Bool := !longF f && wholeF f
def varsF (f : RFun) : List Nat := if okF f then varsTo (putsV noS (noteF f) true) 200 else []
def sizeF (f : RFun) : Nat := if okF f then (f.blocks.map fun b => b.ins.length + 1).sum else 0
theorem mem_varsF {f : RFun} {v : Nat} : v ∈ varsF f ↔ okF f = true ∧ (1 ≤ v ∧ v ≤ 200) ∧ ∃ n ∈ noteF f, n.toNat = v := by
  unfold varsF
  cases h : okF f with
  | false => simp
  | true =>
    rw [if_pos rfl]
    unfold varsTo
    rw [List.mem_filter, putsV_iff, List.mem_range'_1]
    simp only [noS, Bool.false_eq_true, false_or, true_and]
    exact ⟨fun ⟨h1, h2⟩ => ⟨⟨h1.1, by omega⟩, h2⟩, fun ⟨h1, h2⟩ => ⟨⟨h1.1, by omega⟩, h2⟩⟩
theorem ok_parts {f : RFun} (h : okF f = true) : longF f = false ∧ wholeF f = true := by
  unfold okF at h
  rw [Bool.and_eq_true] at h
  exact ⟨by simpa using h.1, h.2⟩
theorem whole_params {f : RFun} (h : wholeF f = true) : ∀ p ∈ f.params, 1 ≤ p ∧ p ≤ 200 := fun p hp => by
  rw [whole_split, Bool.and_eq_true, Bool.and_eq_true] at h
  have := List.all_eq_true.1 h.1.1 p hp
  unfold varB at this
  simpa using this
theorem noteI_range {i : RIns} {n : Int} (h : n ∈ noteI i) : 0 ≤ n ∧ n ≤ 200 := by
  unfold noteI at h
  rcases List.mem_append.1 h with h | h
  · have := readsL_mem h; omega
  · have e : n = defI i := by simpa using h
    rw [e]; exact defI_range i
theorem RdS.held {w0 : World} {B s n : Nat} {L : List Res} {A : Option Addr} {xs : List Value} {M : List Res} {w : World} (h : RdS w0 B L s A n xs) (hh : Hp w0 B (M ++ L) w) : Reads w w.heap.size s A n xs := h M w hh
section
/-- Numbers are noted. -/
theorem ir_Vars_1_ct {w0 : World} {B g c : Nat} {A : Option Addr} {l : List Int} {S : VS} {R : List Res} (hl : RdS w0 B R 1 A l.length (ints l)) (hlen : l.length < 2 ^ 60) (hr : ∀ n ∈ l, 0 ≤ n ∧ n ≤ 200) :
    Cm Try.prog 87 #[.slice A l.length c, .pointer (some ⟨g, 0, none⟩)] w0 B (blk g (.cells (encV S) 128) :: R) (fun v L => v = .tuple #[] ∧ L = blk g (.cells (encV (putsV S l true)) 128) :: R) := by
  refine Cm.mk Try.func87 rfl rfl fun M => ?_
  refine Cd.seq ?_
  refine Cd.region ?_
  refine Ol.p mvs ?_
  refine Ol.p (lens sl_L_int) ?_
  refine Ol.p mvi ?_
  refine Ol.nil ?_
  refine Cd.block ?_
  refine Cd.loop (fun m σ L => ∃ k, m = l.length - k ∧ k ≤ l.length ∧ Has σ [(1, .pointer (some ⟨g, 0, none⟩)), (5, .slice A l.length c), (6, .int .i64 l.length), (7, .int .i64 k)] ∧ blk g (.cells (encV (putsV S (l.take k) true)) 128) :: R = L) (n := l.length) ⟨0, rfl, Nat.zero_le _, ⟨rfl, rfl, rfl, rfl, trivial⟩, rfl⟩ ?_
  rintro _ σ L ⟨k, rfl, hk, hs, rfl⟩
  refine Cd.has hs ?_
  refine Cd.seq ?_
  refine Cd.region ?_
  refine Ol.p lsi ?_
  refine Ol.nil ?_
  refine Cd.seq ?_
  refine Cd.cond rfl (fun h => ?_) (fun h => ?_)
  · have hlt : k < l.length := by simpa using h
    obtain ⟨n, hn⟩ : ∃ n, l[k]? = some n := ⟨_, List.getElem?_eq_getElem hlt⟩
    have hnr := hr n (List.mem_of_getElem? hn)
    obtain ⟨m, rfl⟩ : ∃ m : Nat, n = (m : Int) := ⟨n.toNat, by omega⟩
    refine Cd.skip ?_
    refine Cd.seq ?_
    refine Cd.block ?_
    refine Cd.seq ?_
    refine Cd.region ?_
    refine Ol.p (ixn1 (ix := k) sl_L_int (Som.rds hl.more (by omega))) ?_
    refine Ol.p (ld one_int (Rd.rds hl.more (ints_at hn))) ?_
    refine Ol.p asi ?_
    refine Ol.nil ?_
    refine Cd.region ?_
    refine Ol.p mvi ?_
    refine Ol.p (ixl1 (ix := m) ar_ir_set) ?_
    refine Ol.s (sto (v := .bool true) (i := 0) (k := m) (.inr sz_bool) rfl rfl rfl (by rw [encV_size]; omega) rfl) ?_
    refine Ol.nil ?_
    refine Cd.region ?_
    refine Ol.p addi ?_
    refine Ol.p mvi ?_
    refine Ol.nil ?_
    refine ⟨l.length - (k + 1), by omega, k + 1, rfl, by omega, ⟨rfl, rfl, rfl, rfl, trivial⟩, ?_⟩
    rw [take_snoc_ hn, putsV_snoc, ← encV_set]
    rfl
  have hge : k = l.length := by
    have : ¬ (k : Int) < l.length := by simpa using h
    omega
  subst hge
  refine Cd.exit (id := 0) ⟨_, ret0 rfl, _, .all, rfl, by rw [List.take_of_length_le (Nat.le_refl _)]⟩
end
section
set_option maxHeartbeats 4000000 in
theorem ir_Vars_ct {w : World} {f : RFun} (hf : FunAt w w.heap.size f) (hfit : Fit f) : Ct Try.prog 36 #[f.val] w (NewL 3 1 (varsF f).length (intsN (varsF f))) := by
  have hbl := hfit.blen
  have hpl := hfit.plen
  refine Ct.mk Try.func36 rfl rfl ?_
  refine Cd.seq ?_
  refine Cd.region ?_
  refine Ol.x bxg ?_
  rintro _ _ ⟨g1, rfl, rfl⟩
  refine Ol.p ass ?_
  refine Ol.nil ?_
  refine Cd.seq ?_
  cases hok : okF f with
  | false =>
    have hv : varsF f = [] := by unfold varsF; rw [hok]; rfl
    rw [hv]
    refine Cd.mid (fun σ' L' => Has σ' [(16, .bool true)] ∧ [blk g1 (.cells f.cells.toArray 43)] = L') ?_ ?_
    · cases hl : longF f with
      | true =>
        refine Cd.region ?_
        refine Ol.p (ldw ag_api_Func (i := 0) rfl rfl) ?_
        refine Ol.s (cl en_ir_long (fun M w' hh => ir_long_ct (hf.now hh) hfit)) ?_
        refine Ol.p mvb ?_
        refine Ol.gn hl ?_
        refine Ol.gn hl ?_
        refine Ol.gn hl ?_
        refine Ol.p (pkTb hl) ?_
        refine Ol.nil ?_
        exact ⟨⟨rfl, trivial⟩, rfl⟩
      | false =>
        have hw : wholeF f = false := by unfold okF at hok; rw [hl] at hok; simpa using hok
        refine Cd.region ?_
        refine Ol.p (ldw ag_api_Func (i := 0) rfl rfl) ?_
        refine Ol.s (cl en_ir_long (fun M w' hh => ir_long_ct (hf.now hh) hfit)) ?_
        refine Ol.p mvb ?_
        refine Ol.gp hl (ldw ag_api_Func (i := 0) rfl rfl) ?_
        refine Ol.gs hl (cl en_ir_whole (fun M w' hh => ir_whole_ct (hf.now hh) hfit)) ?_
        refine Ol.gp hl noti ?_
        refine Ol.p (pkFb hl) ?_
        refine Ol.nil ?_
        exact ⟨⟨by show Value.bool _ = _; rw [hw]; rfl, trivial⟩, rfl⟩
    rintro σ' _ ⟨hs', rfl⟩
    refine Cd.has hs' ?_
    refine Cd.cond rfl (fun h => ?_) (fun h => by cases h)
    refine Cd.seq ?_
    refine Cd.region ?_
    refine Ol.p ass ?_
    refine Ol.nil ?_
    exact Cd.nr 3 1 (Cd.ret ⟨_, ret1 rfl rfl, _, .sub (.cons_cons _ (.cons _ .slnil)), none, 0, rfl, rfl⟩)
  | true =>
  obtain ⟨hl, hw⟩ := ok_parts hok
  obtain ⟨h0, h200, h8, h64⟩ := long_parts hl
  have hwb : (!wholeF f) = false := by rw [hw]; rfl
  have hprm : ∀ n ∈ f.params, 0 ≤ n ∧ n ≤ 200 := fun n hn => by have := whole_params hw n hn; omega
  have hv : varsF f = varsTo (putsV noS (noteF f) true) 200 := by unfold varsF; rw [hok]; rfl
  rw [hv]
  refine Cd.seq ?_
  refine Cd.region ?_
  refine Ol.p (ldw ag_api_Func (i := 0) rfl rfl) ?_
  refine Ol.s (cl en_ir_long (fun M w' hh => ir_long_ct (hf.now hh) hfit)) ?_
  refine Ol.p mvb ?_
  refine Ol.gp hl (ldw ag_api_Func (i := 0) rfl rfl) ?_
  refine Ol.gs hl (cl en_ir_whole (fun M w' hh => ir_whole_ct (hf.now hh) hfit)) ?_
  refine Ol.gp hl noti ?_
  refine Ol.p (pkFb hl) ?_
  refine Ol.nil ?_
  refine Cd.cond rfl (fun h => by rw [hwb] at h; cases h) (fun h => ?_)
  refine Cd.skip ?_
  refine Cd.seq ?_
  refine Cd.region ?_
  refine Ol.x (alc zr_ir_set) ?_
  rintro _ _ ⟨g3, rfl, rfl⟩
  refine Ol.nil ?_
  refine Cd.seq ?_
  refine Cd.region ?_
  refine Ol.p mkf ?_
  refine Ol.p asf ?_
  refine Ol.nil ?_
  have hz : (Array.replicate 201 (Value.bool false)) = encV noS := zeroV
  have hnote : ∀ {σ : Env} {L R L2 : List Res} {d ty pos af gd} {x y : Operand} {ts : Array TypeId} {A : Option Addr} {c : Nat} {l : List Int} {S : VS}, L.Perm ((blk g3 (.cells (encV S) 128) :: R) ++ L2) → RdS w w.heap.size R 1 A l.length (ints l) → l.length < 2 ^ 60 → (∀ n ∈ l, 0 ≤ n ∧ n ≤ 200) → ev σ x = .func (.func 87) #[] #[.pointer (some ⟨g3, 0, none⟩)] → [y].map (ev σ) = [.slice A l.length c] →
      Sp Try.prog w w.heap.size ⟨d, .call { callee := .value x, args := [y].toArray, argTypes := ts }, ty, pos, af, gd⟩ σ L (Adds (fun v T => v = .tuple #[] ∧ T = blk g3 (.cells (encV (putsV S l true)) 128) :: R) L2) := by
    intro σ L R L2 d ty pos af gd x y ts A c l S h0 h1 h2 h3 h4 h5
    exact sp_callvw (fst := #[]) (vs := [Value.slice A l.length c]) (cap := #[.pointer (some ⟨g3, 0, none⟩)]) en_ir_Vars_1 (ir_Vars_1_ct (c := c) h1 h2 h3) h0 h4 h5 (by simp)
  refine Cd.seq ?_
  refine Cd.region ?_
  refine Ol.p mvf ?_
  refine Ol.p (fdl fd_api_Func_0) ?_
  refine Ol.p (ld one_L_int (Rd.blk (i := 1) rfl rfl)) ?_
  refine Ol.x (hnote (S := noS) (l := f.params) (R := []) (L2 := [blk g1 (.cells f.cells.toArray 43)]) (c := f.pC) (by rw [← hz]; exact .refl _) (RdS.slc hf.params) (by omega) hprm rfl rfl) ?_
  rintro _ _ ⟨_, rfl, rfl, rfl⟩
  refine Ol.nil ?_
  refine Cd.mid (fun σ' L' => Has σ' [(2, .slice none 0 0), (3, .pointer (some ⟨g3, 0, none⟩))] ∧ [blk g3 (.cells (encV (putsV noS (noteF f) true)) 128), blk g1 (.cells f.cells.toArray 43)] = L') ?_ ?_
  · refine Cd.seq ?_
    refine Cd.region ?_
    refine Ol.p (fdl fd_api_Func_1) ?_
    refine Ol.p (ld one_L_api_Block (Rd.blk (i := 1) rfl rfl)) ?_
    refine Ol.p (lens sl_L_api_Block) ?_
    refine Ol.p mvi ?_
    refine Ol.nil ?_
    refine Cd.block ?_   -- 0
    refine Cd.loop (fun m σ L => ∃ k, m = f.blocks.length - k ∧ k ≤ f.blocks.length ∧ Has σ [(2, .slice none 0 0), (3, .pointer (some ⟨g3, 0, none⟩)), (4, .func (.func 87) #[] #[.pointer (some ⟨g3, 0, none⟩)]), (23, .slice f.bA f.blocks.length f.bC), (24, .int .i64 f.blocks.length), (25, .int .i64 k)] ∧
      [blk g3 (.cells (encV (putsV noS (f.params ++ (f.blocks.take k).flatMap noteB) true)) 128), blk g1 (.cells f.cells.toArray 43)] = L) (n := f.blocks.length) ⟨0, rfl, Nat.zero_le _, ⟨rfl, rfl, rfl, rfl, rfl, rfl, trivial⟩, by simp⟩ ?_
    rintro _ σ L ⟨k, rfl, hk, hs, rfl⟩
    refine Cd.has hs ?_
    clear hs
    refine Cd.seq ?_
    refine Cd.region ?_
    refine Ol.p lsi ?_
    refine Ol.nil ?_
    refine Cd.seq ?_
    refine Cd.cond rfl (fun h => ?_) (fun h => ?_)   -- $26
    · have hlt : k < f.blocks.length := by
        simp only [decide_eq_true_eq] at h; omega
      obtain ⟨x, hx⟩ : ∃ x, f.blocks[k]? = some x := ⟨_, List.getElem?_eq_getElem hlt⟩
      have hxm := List.mem_of_getElem? hx
      have hxl := h64 x hxm
      have hnl := needsL_len x.term
      refine Cd.skip ?_
      refine Cd.seq ?_
      refine Cd.block ?_   -- 1
      refine Cd.seq ?_
      refine Cd.region ?_
      refine Ol.p (ixn (ix := k) sl_L_api_Block (Som.slc hf.blocks (by omega))) ?_
      refine Ol.p (lds (es := x.cells) ag_api_Block hf.blocks x.len (fun j u hu => blk_cell hx hu)) ?_
      refine Ol.x (alc zr_api_Block) ?_
      rintro _ _ ⟨g6, rfl, rfl⟩
      refine Ol.s (stw (vs := x.cells.toArray) sz_api_Block rfl x.one (i := 0) rfl rfl) ?_
      refine Ol.nil ?_
      obtain ⟨S0, hS0⟩ : ∃ S0, S0 = putsV noS (f.params ++ (f.blocks.take k).flatMap noteB) true := ⟨_, rfl⟩
      rw [← hS0]
      refine Cd.mid (fun σ' L' => Has σ' [(2, .slice none 0 0), (3, .pointer (some ⟨g3, 0, none⟩)), (4, .func (.func 87) #[] #[.pointer (some ⟨g3, 0, none⟩)]), (6, .pointer (some ⟨g6, 0, none⟩)), (23, .slice f.bA f.blocks.length f.bC), (24, .int .i64 f.blocks.length), (25, .int .i64 k)] ∧
        [blk g6 (.cells x.cells.toArray 50), blk g3 (.cells (encV (putsV S0 (x.ins.flatMap noteI) true)) 128), blk g1 (.cells f.cells.toArray 43)] = L') ?_ ?_
      · refine Cd.seq ?_
        refine Cd.region ?_
        refine Ol.p (fdl fd_api_Block_0) ?_
        refine Ol.p (ld one_L_api_Ins (Rd.blk (i := 0) rfl rfl)) ?_
        refine Ol.p (lens sl_L_api_Ins) ?_
        refine Ol.p mvi ?_
        refine Ol.nil ?_
        refine Cd.block ?_   -- 2
        refine Cd.loop (fun m σ L => ∃ j, m = x.ins.length - j ∧ j ≤ x.ins.length ∧ Has σ [(2, .slice none 0 0), (3, .pointer (some ⟨g3, 0, none⟩)), (4, .func (.func 87) #[] #[.pointer (some ⟨g3, 0, none⟩)]), (6, .pointer (some ⟨g6, 0, none⟩)), (23, .slice f.bA f.blocks.length f.bC), (24, .int .i64 f.blocks.length), (25, .int .i64 k), (30, .slice x.iA x.ins.length x.iC), (31, .int .i64 x.ins.length), (32, .int .i64 j)] ∧
          [blk g6 (.cells x.cells.toArray 50), blk g3 (.cells (encV (putsV S0 ((x.ins.take j).flatMap noteI) true)) 128), blk g1 (.cells f.cells.toArray 43)] = L) (n := x.ins.length) ⟨0, rfl, Nat.zero_le _, ⟨rfl, rfl, rfl, rfl, rfl, rfl, rfl, rfl, rfl, rfl, trivial⟩, rfl⟩ ?_
        rintro _ σ L ⟨j, rfl, hj, hs, rfl⟩
        refine Cd.has hs ?_
        clear hs
        refine Cd.seq ?_
        refine Cd.region ?_
        refine Ol.p lsi ?_
        refine Ol.nil ?_
        refine Cd.seq ?_
        refine Cd.cond rfl (fun h => ?_) (fun h => ?_)   -- $33
        · have hjl : j < x.ins.length := by
            simp only [decide_eq_true_eq] at h; omega
          obtain ⟨i, hi⟩ : ∃ i, x.ins[j]? = some i := ⟨_, List.getElem?_eq_getElem hjl⟩
          have him := List.mem_of_getElem? hi
          have hrl := readsL_len i
          have hal := hfit.alen x hxm i him
          have hia : ∀ {M : List Res} {w' : World}, Hp w w.heap.size M w' → InsAt w' i := fun hh => ⟨(hf.args x hxm i him).now hh, hal, hfit.insr x hxm i him i.callee (by simp)⟩
          have hnl2 : (noteI i).length = (readsL i).length + 1 := by simp [noteI]
          have hni : ints (readsL i) ++ [Value.int .i64 (defI i)] = ints (noteI i) := by simp [ints, noteI]
          refine Cd.skip ?_
          refine Cd.seq ?_
          refine Cd.block ?_   -- 3
          refine Cd.seq ?_
          refine Cd.region ?_
          refine Ol.p (ixn (ix := j) sl_L_api_Ins (Som.slc (hf.ins x hxm) (by omega))) ?_
          refine Ol.p (lds (es := i.cells) ag_api_Ins (hf.ins x hxm) i.len (fun j u hu => ins_cell hi hu)) ?_
          refine Ol.x (alc zr_api_Ins) ?_
          rintro _ _ ⟨g8, rfl, rfl⟩
          refine Ol.s (stw (vs := i.cells.toArray) sz_api_Ins rfl i.one (i := 0) rfl rfl) ?_
          refine Ol.nil ?_
          refine Cd.drawT (L0 := _) mixed 7 (fun opNo => match opNo with | 2 => some (NewL 3 1 (readsL i).length (ints (readsL i))) | 4 => some (Is (.int .i64 (defI i))) | 5 => some (NewSv 3 1 1 1 [.int .i64 (defI i)]) | 6 => some (NewL 3 1 (noteI i).length (ints (noteI i))) | _ => none) (fun opNo => match opNo with | 6 => [2, 5] | _ => []) (fun opNo => match opNo with | 6 => some 2 | _ => none) [] (fun _ => []) (by kernel_rfl) (.refl _) (by intro c hc; cases hc) (by intro q V h; split at h <;> cases h; exact ⟨_, _, none, 0, rfl, rfl⟩; exact ⟨_, [], rfl, rfl⟩; exact ⟨_, _, 0, rfl, rfl⟩; exact ⟨_, _, none, 0, rfl, rfl⟩) (fun u hu hu0 => ?_)
          refine WkT.p mvf ?_
          refine WkT.p (ldw ag_api_Ins (i := 0) rfl rfl) ?_
          refine WkT.xn (V := NewL 3 1 (readsL i).length (ints (readsL i))) (l := []) (l2 := []) hu rfl rfl rfl (by rw [needs_none]; exact (sp_call en_ir_Reads (fun M w' hh => ir_Reads_ct (hia hh)))) ?_
          rintro _ _ hu2 ⟨A38, c38, rfl, rfl⟩
          refine WkT.p (ldw ag_api_Ins (i := 0) rfl rfl) ?_
          refine WkT.xn (V := Is (.int .i64 (defI i))) (l := []) (l2 := []) hu rfl rfl rfl (by rw [needs_none]; exact (sp_call en_ir_Defines (fun M w' hh => ir_Defines_ct (hia hh)))) ?_
          rintro _ _ hu4 ⟨rfl, rfl⟩
          refine WkT.xn (V := NewSv 3 1 1 1 [.int .i64 (defI i)]) (l := []) (l2 := []) hu rfl rfl rfl (by rw [needs_none]; exact (NewS.adds (bsv [.int .i64 (defI i)] sl_L_int zr_int (by simp [Value.cells])))) ?_
          rintro _ _ hu5 ⟨g41, rfl, rfl⟩
          refine WkT.xn (V := NewL 3 1 (noteI i).length (ints (noteI i))) (l := [2, 5]) (l2 := [5]) hu rfl rfl rfl (by rw [needs_cons hu2, needs_cons hu5, needs_none]; exact (by rw [hnl2, ← hni]; exact Grow.adds (apn (i := 0) (m := 1) sl_L_int zr_int rfl (by decide) rfl (Src.row (i := 1) rfl rfl) (by intro u hu; simp at hu; subst hu; rfl) (by unfold maxLen; omega) (by omega)))) ?_
          rintro _ _ hu6 ⟨A42, c42, rfl, rfl⟩
          refine WkT.nil ?_
          change Ol _ _ _ _ _ (needs u [6, 5, 4] _)
          rw [needs_cons hu6, needs_cons hu5, needs_cons hu4, needs_none]
          refine Ol.x (hnote (S := putsV S0 ((x.ins.take j).flatMap noteI) true) (l := noteI i) (R := [row (.slice A42 (noteI i).length c42) 3 1 (noteI i).length (ints (noteI i))]) (L2 := [row (.slice (some ⟨g41, 0, none⟩) 1 1) 3 1 1 [.int .i64 (defI i)], blk g8 (.cells i.cells.toArray 25), blk g6 (.cells x.cells.toArray 50), blk g1 (.cells f.cells.toArray 43)]) (perm_count fun _ x => by simp only [List.count_append, List.count_cons, List.count_nil, List.cons_append, List.nil_append]; omega) (RdS.row (i := 0) rfl) (by omega) (fun n hn => noteI_range hn) rfl rfl) ?_
          rintro _ _ ⟨_, rfl, rfl, rfl⟩
          refine Ol.keep (keep_count (L' := [blk g6 (.cells x.cells.toArray 50), blk g3 (.cells (encV (putsV (putsV S0 ((x.ins.take j).flatMap noteI) true) (noteI i) true)) 128), blk g1 (.cells f.cells.toArray 43)]) [row (.slice A42 (noteI i).length c42) 3 1 (noteI i).length (ints (noteI i)), row (.slice (some ⟨g41, 0, none⟩) 1 1) 3 1 1 [.int .i64 (defI i)], blk g8 (.cells i.cells.toArray 25)] fun _ x => by simp only [List.count_append, List.count_cons, List.count_nil, List.cons_append, List.nil_append]; omega) ?_
          refine Ol.nil ?_
          refine Cd.region ?_
          refine Ol.p addi ?_
          refine Ol.p mvi ?_
          refine Ol.nil ?_
          refine ⟨x.ins.length - (j + 1), by omega, j + 1, rfl, by omega, ⟨rfl, rfl, rfl, rfl, rfl, rfl, rfl, rfl, rfl, rfl, trivial⟩, ?_⟩
          rw [take_snoc_ hi, List.flatMap_append, putsV_app]
          simp
        have hje : j = x.ins.length := by
          simp only [decide_eq_false_iff_not] at h; omega
        refine Cd.exit (id := 2) ⟨⟨rfl, rfl, rfl, rfl, rfl, rfl, rfl, trivial⟩, ?_⟩
        rw [hje, List.take_of_length_le (Nat.le_refl _)]
      rintro σ' _ ⟨hs', rfl⟩
      refine Cd.has hs' ?_
      clear hs'
      refine Cd.region ?_
      refine Ol.p mvf ?_
      refine Ol.p (fdl fd_api_Block_1) ?_
      refine Ol.p (ldp (k := 0 + 1) (vs := x.term.cells.toArray) ag_api_Term (i := 0) rfl rfl (fun j u hu => by rw [Nat.zero_add, Nat.add_comm]; simpa [RBlk.cells] using hu)) ?_
      refine Ol.x (sp_call en_ir_Needs (fun M w' hh => ir_Needs_ct (t := x.term))) ?_
      rintro _ _ ⟨_, rfl, A48, c48, rfl, rfl⟩
      refine Ol.x (hnote (S := putsV S0 (x.ins.flatMap noteI) true) (l := needsL x.term) (R := [row (.slice A48 (needsL x.term).length c48) 3 1 (needsL x.term).length (ints (needsL x.term))]) (L2 := [blk g6 (.cells x.cells.toArray 50), blk g1 (.cells f.cells.toArray 43)]) (perm_count fun _ x => by simp only [List.count_append, List.count_cons, List.count_nil, List.cons_append, List.nil_append]; omega) (RdS.row (i := 0) rfl) (by omega) (fun n hn => by have := needsL_mem hn; omega) rfl rfl) ?_
      rintro _ _ ⟨_, rfl, rfl, rfl⟩
      refine Ol.keep (.sub (.cons_cons _ (.cons _ (.cons _ (List.Sublist.refl _))))) ?_
      refine Ol.nil ?_
      refine Cd.region ?_
      refine Ol.p addi ?_
      refine Ol.p mvi ?_
      refine Ol.nil ?_
      refine ⟨f.blocks.length - (k + 1), by omega, k + 1, rfl, by omega, ⟨rfl, rfl, rfl, rfl, rfl, rfl, trivial⟩, ?_⟩
      rw [take_snoc_ hx, List.flatMap_append, ← List.append_assoc, putsV_app, ← hS0, ← putsV_app]
      simp [noteB]
    have hke : k = f.blocks.length := by
      simp only [decide_eq_false_iff_not] at h; omega
    refine Cd.exit (id := 0) ⟨⟨rfl, rfl, trivial⟩, ?_⟩
    rw [hke, List.take_of_length_le (Nat.le_refl _)]
    rfl
  rintro σ' _ ⟨hs', rfl⟩
  refine Cd.has hs' ?_
  clear hs'
  obtain ⟨S, hS⟩ : ∃ S, S = putsV noS (noteF f) true := ⟨_, rfl⟩
  rw [← hS]
  refine Cd.nr 3 1 ?_
  refine Cd.mid (fun σ' L' => ∃ A c, Has σ' [(2, .slice A (varsTo S 200).length c)] ∧ row (.slice A (varsTo S 200).length c) 3 1 (varsTo S 200).length (intsN (varsTo S 200)) :: [blk g3 (.cells (encV S) 128), blk g1 (.cells f.cells.toArray 43)] = L') ?_ ?_
  · refine Cd.seq ?_
    refine Cd.region ?_
    refine Ol.p asi ?_
    refine Ol.nil ?_
    refine Cd.block ?_   -- 4
    refine Cd.loop (fun m σ L => ∃ k A c, m = 200 - k ∧ k ≤ 200 ∧ Has σ [(2, .slice A (varsTo S k).length c), (3, .pointer (some ⟨g3, 0, none⟩)), (9, .int .i64 ((k : Int) + 1))] ∧ row (.slice A (varsTo S k).length c) 3 1 (varsTo S k).length (intsN (varsTo S k)) :: [blk g3 (.cells (encV S) 128), blk g1 (.cells f.cells.toArray 43)] = L) (n := 200) ⟨0, none, 0, rfl, Nat.zero_le _, ⟨rfl, rfl, rfl, trivial⟩, rfl⟩ ?_
    rintro _ σ L ⟨k, A, c, rfl, hk, hs, rfl⟩
    have hvl := varsTo_len S k
    have ek : (k : Int) + 1 = ((k + 1 : Nat) : Int) := by omega
    rw [ek] at hs
    refine Cd.has hs ?_
    clear hs
    refine Cd.seq ?_
    refine Cd.seq ?_
    refine Cd.region ?_
    refine Ol.p mvi ?_
    refine Ol.p lsi ?_
    refine Ol.nil ?_
    refine Cd.cond rfl (fun h => ?_) (fun h => ?_)   -- $52
    · have hlt : k + 1 < 201 := by
        simp only [decide_eq_true_eq] at h; omega
      refine Cd.skip ?_
      refine Cd.seq ?_
      refine Cd.block ?_   -- 5
      refine Cd.seq ?_
      refine Cd.region ?_
      refine Ol.p mvi ?_
      refine Ol.p (ixl1 (ix := k + 1) ar_ir_set) ?_
      refine Ol.p (ld one_bool (Rd.blk (i := 1) rfl (encV_get (i := k + 1) (by omega)))) ?_
      refine Ol.nil ?_
      have hsucc := varsTo_succ S k
      refine Cd.cond rfl (fun h2 => ?_) (fun h2 => ?_)   -- $57
      · skip
        refine Cd.region ?_
        refine Ol.p mvs ?_
        refine Ol.p mvi ?_
        refine Ol.x (bsv [.int .i64 ((k + 1 : Nat) : Int)] sl_L_int zr_int (by simp [Value.cells])) ?_
        rintro _ _ ⟨g60, rfl, rfl⟩
        refine Ol.x (apn (i := 1) (m := 1) sl_L_int zr_int rfl (by decide) rfl (Src.row (i := 0) rfl rfl) (by intro u hu; simp at hu; subst hu; rfl) (by unfold maxLen; omega) (by omega)) ?_
        rintro _ _ ⟨A', c', rfl, rfl⟩
        refine Ol.p ass ?_
        refine Ol.keep (.sub (.cons _ (List.Sublist.refl _))) ?_
        refine Ol.nil ?_
        rw [if_pos h2] at hsucc
        have e1 : (varsTo S k).length + 1 = (varsTo S (k + 1)).length := by rw [hsucc]; simp
        have e2 : intsN (varsTo S k) ++ [Value.int .i64 ((k + 1 : Nat) : Int)] = intsN (varsTo S (k + 1)) := by rw [hsucc]; simp [intsN]
        rw [e1, e2]
        refine Cd.region ?_
        refine Ol.p mvi ?_
        refine Ol.p addi ?_
        refine Ol.p asi ?_
        refine Ol.nil ?_
        exact ⟨200 - (k + 1), by omega, k + 1, A', c', rfl, by omega, ⟨rfl, rfl, rfl, trivial⟩, rfl⟩
      rw [if_neg (by rw [h2]; simp), List.append_nil] at hsucc
      refine Cd.skip ?_
      rw [← hsucc]
      refine Cd.region ?_
      refine Ol.p mvi ?_
      refine Ol.p addi ?_
      refine Ol.p asi ?_
      refine Ol.nil ?_
      exact ⟨200 - (k + 1), by omega, k + 1, A, c, rfl, by omega, ⟨rfl, rfl, rfl, trivial⟩, rfl⟩
    have hke : k = 200 := by
      simp only [decide_eq_false_iff_not] at h; omega
    subst hke
    exact Cd.exit (id := 4) ⟨A, c, ⟨rfl, trivial⟩, rfl⟩
  rintro σ' _ ⟨A, c, hs', rfl⟩
  refine Cd.has hs' ?_
  refine Cd.seq ?_
  refine Cd.region ?_
  refine Ol.p mvs ?_
  refine Ol.p ass ?_
  refine Ol.nil ?_
  exact Cd.ret ⟨_, ret1 rfl rfl, _, .sub (.cons_cons _ (.cons _ (.cons _ .slnil))), A, c, rfl, rfl⟩
end
section
theorem sizeF_ok {f : RFun} (h : okF f = true) : sizeF f = (f.blocks.map fun b => b.ins.length + 1).sum := by unfold sizeF; rw [h]; rfl
def szTo (f : RFun) (k : Nat) : Nat := ((f.blocks.take k).map fun b => b.ins.length + 1).sum
theorem szTo_succ {f : RFun} {k : Nat} {x : RBlk} (h : f.blocks[k]? = some x) : szTo f (k + 1) = szTo f k + (x.ins.length + 1) := by
  unfold szTo
  rw [take_snoc_ h]
  simp
theorem szTo_le {f : RFun} (h64 : ∀ b ∈ f.blocks, b.ins.length ≤ 64) : ∀ k, szTo f k ≤ k * 65
  | 0 => by simp [szTo]
  | k + 1 => by
    cases hx : f.blocks[k]? with
    | none =>
      have h1 := szTo_le h64 k
      have hl : f.blocks.length ≤ k := by simpa using hx
      have : szTo f (k + 1) = szTo f k := by unfold szTo; rw [List.take_of_length_le hl, List.take_of_length_le (by omega)]
      omega
    | some x =>
      have h1 := szTo_le h64 k
      have := h64 x (List.mem_of_getElem? hx)
      rw [szTo_succ hx]; omega
set_option maxHeartbeats 2000000 in
theorem ir_Size_ct {w : World} {f : RFun} (hf : FunAt w w.heap.size f) (hfit : Fit f) : Ct Try.prog 38 #[f.val] w (Is (.int .i64 (sizeF f : Nat))) := by
  have hbl := hfit.blen
  refine Ct.mk Try.func38 rfl rfl ?_
  refine Cd.seq ?_
  refine Cd.region ?_
  refine Ol.x bxg ?_
  rintro _ _ ⟨g1, rfl, rfl⟩
  refine Ol.p asi ?_
  refine Ol.nil ?_
  refine Cd.seq ?_
  cases hok : okF f with
  | false =>
    have hv : sizeF f = 0 := by unfold sizeF; rw [hok]; rfl
    rw [hv]
    refine Cd.mid (fun σ' L' => Has σ' [(11, .bool true)] ∧ [blk g1 (.cells f.cells.toArray 43)] = L') ?_ ?_
    · cases hl : longF f with
      | true =>
        refine Cd.region ?_
        refine Ol.p (ldw ag_api_Func (i := 0) rfl rfl) ?_
        refine Ol.s (cl en_ir_long (fun M w' hh => ir_long_ct (hf.now hh) hfit)) ?_
        refine Ol.p mvb ?_
        refine Ol.gn hl ?_
        refine Ol.gn hl ?_
        refine Ol.gn hl ?_
        refine Ol.p (pkTb hl) ?_
        refine Ol.nil ?_
        exact ⟨⟨rfl, trivial⟩, rfl⟩
      | false =>
        have hw : wholeF f = false := by unfold okF at hok; rw [hl] at hok; simpa using hok
        refine Cd.region ?_
        refine Ol.p (ldw ag_api_Func (i := 0) rfl rfl) ?_
        refine Ol.s (cl en_ir_long (fun M w' hh => ir_long_ct (hf.now hh) hfit)) ?_
        refine Ol.p mvb ?_
        refine Ol.gp hl (ldw ag_api_Func (i := 0) rfl rfl) ?_
        refine Ol.gs hl (cl en_ir_whole (fun M w' hh => ir_whole_ct (hf.now hh) hfit)) ?_
        refine Ol.gp hl noti ?_
        refine Ol.p (pkFb hl) ?_
        refine Ol.nil ?_
        exact ⟨⟨by show Value.bool _ = _; rw [hw]; rfl, trivial⟩, rfl⟩
    rintro σ' _ ⟨hs', rfl⟩
    refine Cd.has hs' ?_
    refine Cd.cond rfl (fun h => ?_) (fun h => by cases h)
    refine Cd.seq ?_
    refine Cd.region ?_
    refine Ol.p asi ?_
    refine Ol.nil ?_
    exact Cd.ret ⟨.int .i64 _, ret1 rfl rfl, [], .nil, rfl, rfl⟩
  | true =>
  obtain ⟨hl, hw⟩ := ok_parts hok
  obtain ⟨h0, h200, h8, h64⟩ := long_parts hl
  have hwb : (!wholeF f) = false := by rw [hw]; rfl
  refine Cd.seq ?_
  refine Cd.region ?_
  refine Ol.p (ldw ag_api_Func (i := 0) rfl rfl) ?_
  refine Ol.s (cl en_ir_long (fun M w' hh => ir_long_ct (hf.now hh) hfit)) ?_
  refine Ol.p mvb ?_
  refine Ol.gp hl (ldw ag_api_Func (i := 0) rfl rfl) ?_
  refine Ol.gs hl (cl en_ir_whole (fun M w' hh => ir_whole_ct (hf.now hh) hfit)) ?_
  refine Ol.gp hl noti ?_
  refine Ol.p (pkFb hl) ?_
  refine Ol.nil ?_
  refine Cd.cond rfl (fun h => by rw [hwb] at h; cases h) (fun h => ?_)
  refine Cd.skip ?_
  refine Cd.seq ?_
  refine Cd.seq ?_
  refine Cd.region ?_
  refine Ol.p (fdl fd_api_Func_1) ?_
  refine Ol.p (ld one_L_api_Block (Rd.blk (i := 0) rfl rfl)) ?_
  refine Ol.p (lens sl_L_api_Block) ?_
  refine Ol.p mvi ?_
  refine Ol.nil ?_
  refine Cd.block ?_
  refine Cd.loop (fun m σ L => ∃ k, m = f.blocks.length - k ∧ k ≤ f.blocks.length ∧ Has σ [(2, .int .i64 (szTo f k : Nat)), (13, .slice f.bA f.blocks.length f.bC), (14, .int .i64 f.blocks.length), (15, .int .i64 k)] ∧ [blk g1 (.cells f.cells.toArray 43)] = L) (n := f.blocks.length) ⟨0, rfl, Nat.zero_le _, ⟨rfl, rfl, rfl, rfl, trivial⟩, rfl⟩ ?_
  rintro _ σ L ⟨k, rfl, hk, hs, rfl⟩
  refine Cd.has hs ?_
  clear hs
  refine Cd.seq ?_
  refine Cd.region ?_
  refine Ol.p lsi ?_
  refine Ol.nil ?_
  refine Cd.seq ?_
  refine Cd.cond rfl (fun h => ?_) (fun h => ?_)
  · have hlt : k < f.blocks.length := by
      simp only [decide_eq_true_eq] at h; omega
    obtain ⟨x, hx⟩ : ∃ x, f.blocks[k]? = some x := ⟨_, List.getElem?_eq_getElem hlt⟩
    have hxm := List.mem_of_getElem? hx
    have hxl := h64 x hxm
    have hle := szTo_le h64 k
    have hsu := szTo_succ hx
    refine Cd.skip ?_
    refine Cd.seq ?_
    refine Cd.block ?_
    refine Cd.seq ?_
    refine Cd.region ?_
    refine Ol.p (ixn (ix := k) sl_L_api_Block (Som.slc hf.blocks (by omega))) ?_
    refine Ol.p (lds (es := x.cells) ag_api_Block hf.blocks x.len (fun j u hu => blk_cell hx hu)) ?_
    refine Ol.x (alc zr_api_Block) ?_
    rintro _ _ ⟨g4, rfl, rfl⟩
    refine Ol.s (stw (vs := x.cells.toArray) sz_api_Block rfl x.one (i := 0) rfl rfl) ?_
    refine Ol.nil ?_
    refine Cd.region ?_
    refine Ol.p mvi ?_
    refine Ol.p (fdl fd_api_Block_0) ?_
    refine Ol.p (ld one_L_api_Ins (Rd.blk (i := 0) rfl rfl)) ?_
    refine Ol.p (lens sl_L_api_Ins) ?_
    refine Ol.p addi ?_
    refine Ol.p addi ?_
    refine Ol.p asi ?_
    refine Ol.keep (.sub (.cons _ (List.Sublist.refl _))) ?_
    refine Ol.nil ?_
    refine Cd.region ?_
    refine Ol.p addi ?_
    refine Ol.p mvi ?_
    refine Ol.nil ?_
    exact ⟨f.blocks.length - (k + 1), by omega, k + 1, rfl, by omega, ⟨congrArg (Value.int .i64) (by rw [hsu]; omega), rfl, rfl, rfl, trivial⟩, rfl⟩
  have hke : k = f.blocks.length := by
    simp only [decide_eq_false_iff_not] at h; omega
  refine Cd.exit (id := 0) ?_
  refine Cd.seq ?_
  refine Cd.region ?_
  refine Ol.p mvi ?_
  refine Ol.p asi ?_
  refine Ol.nil ?_
  refine Cd.ret ⟨.int .i64 _, ret1 rfl rfl, [], .nil, ?_, rfl⟩
  rw [sizeF_ok hok, hke]
  unfold szTo
  rw [List.take_of_length_le (Nat.le_refl _)]
end
end Go.Proofs.Ytcojedoejpcolaa

/- How great a function is: walked. -/
namespace Go.Proofs.Ytcojedoejpcolaa
set_option linter.unusedVariables false
open Go Go.RowKit
set_option maxRecDepth 100000

def argSum (l : List RIns) : Nat := (l.map fun i => i.args.length).sum
def bsz (b : RBlk) : Nat := 1 + b.ins.length + argSum b.ins
def blocksSz (l : List RBlk) : Nat := (l.map bsz).sum
def RFun.sz (f : RFun) : Nat := f.params.length + blocksSz f.blocks
theorem argSum_snoc {l : List RIns} {k : Nat} {i : RIns} (h : l[k]? = some i) : argSum (l.take (k + 1)) = argSum (l.take k) + i.args.length := by
  unfold argSum
  rw [take_snoc_ h, List.map_append, List.sum_append]; simp
theorem blocksSz_snoc {l : List RBlk} {k : Nat} {b : RBlk} (h : l[k]? = some b) : blocksSz (l.take (k + 1)) = blocksSz (l.take k) + bsz b := by
  unfold blocksSz
  rw [take_snoc_ h, List.map_append, List.sum_append]; simp
theorem blocksSz_mem {l : List RBlk} {b : RBlk} (h : b ∈ l) : bsz b ≤ blocksSz l := by
  unfold blocksSz
  induction l with
  | nil => cases h
  | cons c l ih =>
    simp only [List.map_cons, List.sum_cons]
    rcases List.mem_cons.1 h with rfl | h
    · omega
    · have := ih h; omega
theorem blocksSz_len (l : List RBlk) : l.length ≤ blocksSz l := by
  unfold blocksSz
  induction l with
  | nil => simp
  | cons b l ih => simp [bsz]; omega
/-- What is counted: all, or more than the bound. -/
def Counted (n most total : Nat) : Prop := (n ≤ most → n = total) ∧ n < 2 ^ 55
theorem counted_ex {most : Nat} (hm : most < 2 ^ 40) (t : Nat) : ∃ n, Counted n most t := by
  rcases Nat.lt_or_ge most t with h | h
  · exact ⟨most + 1, fun h' => by omega, by omega⟩
  · exact ⟨t, fun _ => rfl, by omega⟩
section
set_option maxHeartbeats 1000000 in
theorem kit_BlocksOf_ct {w : World} {f : RFun} {most : Nat} (hf : FunAt w w.heap.size f) (hfit : Fit f) (hm : most < 2 ^ 40) : Ct Try.prog 77 #[.slice f.bA f.blocks.length f.bC, .int .i64 most] w (fun v R => ∃ n : Nat, v = .int .i64 n ∧ Counted n most (blocksSz f.blocks) ∧ R = []) := by
  have hbl := hfit.blen
  refine Ct.mk Try.func77 rfl rfl ?_
  refine Cd.seq ?_
  refine Cd.region ?_
  refine Ol.p asi ?_
  refine Ol.nil ?_
  refine Cd.seq ?_
  refine Cd.region ?_
  refine Ol.p asi ?_
  refine Ol.nil ?_
  refine Cd.seq ?_
  refine Cd.seq ?_
  refine Cd.region ?_
  refine Ol.p asi ?_
  refine Ol.nil ?_
  refine Cd.block ?_
  refine Cd.loop (fun m σ L => ∃ k n : Nat, m = f.blocks.length - k ∧ k ≤ f.blocks.length ∧ Has σ [(0, .slice f.bA f.blocks.length f.bC), (1, .int .i64 most), (5, .int .i64 n), (6, .int .i64 k)] ∧ L = [] ∧ Counted n most (blocksSz (f.blocks.take k))) (n := f.blocks.length) ⟨0, 0, rfl, Nat.zero_le _, ⟨rfl, rfl, rfl, rfl, trivial⟩, rfl, fun _ => rfl, by decide⟩ ?_
  rintro _ σ L ⟨k, n, rfl, hk, hs, rfl, hn⟩
  obtain ⟨hn1, hn2⟩ := hn
  refine Cd.has hs ?_
  refine Cd.seq ?_
  refine Cd.seq ?_
  cases h4 : decide ((k : Int) < (f.blocks.length : Int)) with
  | true =>
    have hlt : k < f.blocks.length := by simpa using h4
    obtain ⟨b, hb⟩ : ∃ b, f.blocks[k]? = some b := ⟨_, List.getElem?_eq_getElem hlt⟩
    have hbm : b ∈ f.blocks := List.mem_of_getElem? hb
    have hil := hfit.ilen b hbm
    have hins := hf.ins b hbm
    have hsl : Som w w.heap.size ([] : List Res) f.bA := Som.slc hf.blocks (by omega)
    have hc0 : (f.blocks.flatMap RBlk.cells)[k * 5 + 0]? = some (.slice b.iA b.ins.length b.iC) := hf.cell hb (by decide)
    refine Cd.region ?_
    refine Ol.p mvi ?_
    refine Ol.p mvs ?_
    refine Ol.p (lens sl_L_api_Block) ?_
    refine Ol.p lsi ?_
    refine Ol.p mvb ?_
    refine Ol.gp h4 mvi ?_
    refine Ol.gp h4 mvi ?_
    refine Ol.gp h4 lei ?_
    refine Ol.p (pkTb h4) ?_
    refine Ol.nil ?_
    refine Cd.cond rfl (fun h => ?_) (fun h => ?_)
    · have hle : n ≤ most := by simpa using h
      have hne := hn1 hle
      refine Cd.skip ?_
      refine Cd.mid (fun σ' L' => ∃ n' : Nat, Has σ' [(0, .slice f.bA f.blocks.length f.bC), (1, .int .i64 most), (5, .int .i64 n'), (6, .int .i64 k)] ∧ L' = [] ∧ Counted n' most (blocksSz (f.blocks.take (k + 1)))) ?_ ?_
      · refine Cd.block ?_
        refine Cd.seq ?_
        refine Cd.region ?_
        refine Ol.p mvi ?_
        refine Ol.p addi ?_
        refine Ol.p mvs ?_
        refine Ol.p mvi ?_
        refine Ol.p (ixn sl_L_api_Block hsl) ?_
        refine Ol.p (fdp fd_api_Block_0) ?_
        refine Ol.p (ld one_L_api_Ins (Rd.slc hf.blocks hc0)) ?_
        refine Ol.p (lens sl_L_api_Ins) ?_
        refine Ol.p addi ?_
        refine Ol.p asi ?_
        refine Ol.nil ?_
        refine Cd.seq ?_
        refine Cd.region ?_
        refine Ol.p asi ?_
        refine Ol.nil ?_
        refine Cd.block ?_
        refine Cd.loop (fun m σ L => ∃ j n : Nat, m = b.ins.length - j ∧ j ≤ b.ins.length ∧ Has σ [(0, .slice f.bA f.blocks.length f.bC), (1, .int .i64 most), (5, .int .i64 n), (6, .int .i64 k), (7, .int .i64 j)] ∧ L = [] ∧ (n ≤ most → n = blocksSz (f.blocks.take k) + 1 + b.ins.length + argSum (b.ins.take j)) ∧ n < 2 ^ 55 ∧ (j = 0 → n ≤ most + 1 + b.ins.length)) (n := b.ins.length) ⟨0, n + 1 + b.ins.length, rfl, Nat.zero_le _, ⟨rfl, rfl, rfl, rfl, rfl, trivial⟩, rfl, fun _ => by rw [hne]; rfl, by omega, fun _ => by omega⟩ ?_
        rintro _ σ L ⟨j, n, rfl, hj, hs, rfl, hq1, hq2, hq3⟩
        refine Cd.has hs ?_
        refine Cd.seq ?_
        refine Cd.seq ?_
        cases h8 : decide ((j : Int) < (b.ins.length : Int)) with
        | true =>
          have hjl : j < b.ins.length := by simpa using h8
          obtain ⟨i, hi⟩ : ∃ i, b.ins[j]? = some i := ⟨_, List.getElem?_eq_getElem hjl⟩
          have him : i ∈ b.ins := List.mem_of_getElem? hi
          have hal := hfit.alen b hbm i him
          have hc6 : (b.ins.flatMap RIns.cells)[j * 8 + 6]? = some (.slice i.aA i.args.length i.aC) := flat_get RIns.len _ _ _ _ hi (by decide)
          refine Cd.region ?_
          refine Ol.p mvi ?_
          refine Ol.p mvs ?_
          refine Ol.p mvi ?_
          refine Ol.p (ixn sl_L_api_Block hsl) ?_
          refine Ol.p (fdp fd_api_Block_0) ?_
          refine Ol.p (ld one_L_api_Ins (Rd.slc hf.blocks hc0)) ?_
          refine Ol.p (lens sl_L_api_Ins) ?_
          refine Ol.p lsi ?_
          refine Ol.p mvb ?_
          refine Ol.gp h8 mvi ?_
          refine Ol.gp h8 mvi ?_
          refine Ol.gp h8 lei ?_
          refine Ol.p (pkTb h8) ?_
          refine Ol.nil ?_
          refine Cd.cond rfl (fun h => ?_) (fun h => ?_)
          · have hle : n ≤ most := by simpa using h
            refine Cd.skip ?_
            refine Cd.seq ?_
            refine Cd.block ?_
            refine Cd.region ?_
            refine Ol.p mvi ?_
            refine Ol.p mvs ?_
            refine Ol.p mvi ?_
            refine Ol.p (ixn sl_L_api_Block hsl) ?_
            refine Ol.p (fdp fd_api_Block_0) ?_
            refine Ol.p (ld one_L_api_Ins (Rd.slc hf.blocks hc0)) ?_
            refine Ol.p mvi ?_
            refine Ol.p (ixn sl_L_api_Ins (Som.slc hins (by omega))) ?_
            refine Ol.p (fdp fd_api_Ins_6) ?_
            refine Ol.p (ld one_L_int (Rd.slc hins hc6)) ?_
            refine Ol.p (lens sl_L_int) ?_
            refine Ol.p addi ?_
            refine Ol.p asi ?_
            refine Ol.nil ?_
            refine Cd.region ?_
            refine Ol.p mvi ?_
            refine Ol.p addi ?_
            refine Ol.p asi ?_
            refine Ol.nil ?_
            refine ⟨b.ins.length - (j + 1), by omega, j + 1, n + i.args.length, rfl, by omega, ⟨rfl, rfl, rfl, rfl, rfl, trivial⟩, rfl, fun h' => ?_, by omega, fun h' => by omega⟩
            rw [argSum_snoc hi, hq1 hle]
            omega
          · have hgt : most < n := by
              have : ¬ (n : Int) ≤ most := by simpa using h
              omega
            refine Cd.exit (id := 2) ?_
            exact ⟨n, ⟨rfl, rfl, rfl, rfl, trivial⟩, rfl, fun h' => by omega, hq2⟩
        | false =>
          have hje : j = b.ins.length := by
            have : ¬ (j : Int) < b.ins.length := by simpa using h8
            omega
          refine Cd.region ?_
          refine Ol.p mvi ?_
          refine Ol.p mvs ?_
          refine Ol.p mvi ?_
          refine Ol.p (ixn sl_L_api_Block hsl) ?_
          refine Ol.p (fdp fd_api_Block_0) ?_
          refine Ol.p (ld one_L_api_Ins (Rd.slc hf.blocks hc0)) ?_
          refine Ol.p (lens sl_L_api_Ins) ?_
          refine Ol.p lsi ?_
          refine Ol.p mvb ?_
          refine Ol.gn h8 ?_
          refine Ol.gn h8 ?_
          refine Ol.gn h8 ?_
          refine Ol.p (pkFb h8) ?_
          refine Ol.nil ?_
          refine Cd.cond rfl (fun h => by cases h) (fun h => ?_)
          refine Cd.exit (id := 2) ?_
          refine ⟨n, ⟨rfl, rfl, rfl, rfl, trivial⟩, rfl, fun h' => ?_, hq2⟩
          rw [hq1 h', hje, List.take_length, blocksSz_snoc hb]
          unfold bsz; omega
      · rintro σ' _ ⟨n', hs', rfl, hn'⟩
        refine Cd.has hs' ?_
        refine Cd.region ?_
        refine Ol.p mvi ?_
        refine Ol.p addi ?_
        refine Ol.p asi ?_
        refine Ol.nil ?_
        exact ⟨f.blocks.length - (k + 1), by omega, k + 1, n', rfl, by omega, ⟨rfl, rfl, rfl, rfl, trivial⟩, rfl, hn'⟩
    · have hgt : most < n := by
        have : ¬ (n : Int) ≤ most := by simpa using h
        omega
      refine Cd.exit (id := 0) ?_
      refine Cd.seq ?_
      refine Cd.region ?_
      refine Ol.p mvi ?_
      refine Ol.p asi ?_
      refine Ol.nil ?_
      exact Cd.ret ⟨.int .i64 _, ret1 rfl rfl, [], .nil, n, rfl, ⟨fun h' => by omega, hn2⟩, rfl⟩
  | false =>
    have hke : k = f.blocks.length := by
      have : ¬ (k : Int) < f.blocks.length := by simpa using h4
      omega
    subst hke
    refine Cd.region ?_
    refine Ol.p mvi ?_
    refine Ol.p mvs ?_
    refine Ol.p (lens sl_L_api_Block) ?_
    refine Ol.p lsi ?_
    refine Ol.p mvb ?_
    refine Ol.gn h4 ?_
    refine Ol.gn h4 ?_
    refine Ol.gn h4 ?_
    refine Ol.p (pkFb h4) ?_
    refine Ol.nil ?_
    refine Cd.cond rfl (fun h => by cases h) (fun h => ?_)
    refine Cd.exit (id := 0) ?_
    refine Cd.seq ?_
    refine Cd.region ?_
    refine Ol.p mvi ?_
    refine Ol.p asi ?_
    refine Ol.nil ?_
    rw [List.take_length] at hn1
    exact Cd.ret ⟨.int .i64 _, ret1 rfl rfl, [], .nil, n, rfl, ⟨hn1, hn2⟩, rfl⟩
theorem kit_FuncOf_ct {w : World} {f : RFun} {most : Nat} (hf : FunAt w w.heap.size f) (hfit : Fit f) (hm : most < 2 ^ 40) : Ct Try.prog 29 #[f.val, .int .i64 most] w (fun v R => ∃ n : Nat, v = .int .i64 n ∧ (n ≤ most → n = f.sz) ∧ n < 2 ^ 56 ∧ R = []) := by
  have hpl := hfit.plen
  refine Ct.mk Try.func29 rfl rfl ?_
  refine Cd.seq ?_
  refine Cd.region ?_
  refine Ol.x bxg ?_
  rintro _ _ ⟨g2, rfl, rfl⟩
  refine Ol.p asi ?_
  refine Ol.nil ?_
  refine Cd.seq ?_
  refine Cd.draw mixed 8 (fun j => match j with | 6 => some (fun v R => ∃ n : Nat, v = .int .i64 n ∧ Counted n most (blocksSz f.blocks) ∧ R = []) | _ => none) (fun _ => []) (by kernel_rfl) (by intro j V h; split at h <;> cases h; obtain ⟨n, hn⟩ := counted_ex hm (blocksSz f.blocks); exact ⟨_, _, n, rfl, hn, rfl⟩) (fun u hu => ?_)
  refine Wk.p (fdl fd_api_Func_0) ?_
  refine Wk.p (ld one_L_int (Rd.blk (i := 0) rfl rfl)) ?_
  refine Wk.p (lens sl_L_int) ?_
  refine Wk.p (fdl fd_api_Func_1) ?_
  refine Wk.p (ld one_L_api_Block (Rd.blk (i := 0) rfl rfl)) ?_
  refine Wk.p mvi ?_
  refine Wk.x hu (sp_call en_kit_BlocksOf (fun M w' hh => kit_BlocksOf_ct (hf.now hh) hfit hm)) ?_
  rintro _ _ hu6 ⟨n, rfl, ⟨hn1, hn2⟩, rfl⟩
  refine Wk.p addi ?_
  refine Wk.nil ?_
  rw [needs_cons hu6, needs_none]
  refine Ol.p asi ?_
  refine Ol.nil ?_
  exact Cd.ret ⟨.int .i64 _, ret1 rfl rfl, [], .nil, f.params.length + n, rfl, fun h' => by rw [hn1 (by omega)]; rfl, by omega, rfl⟩
end
end Go.Proofs.Ytcojedoejpcolaa

/- Picking. -/
namespace Go.Proofs.Ytcojedoejpcolaa
set_option linter.unusedVariables false
open Go Go.RowKit
set_option maxRecDepth 100000
section
def pickF (x : Int) (n : Nat) : Nat := (x % (n : Int)).toNat
theorem pickF_lt {x : Int} {n : Nat} (h : 0 < n) : pickF x n < n := by
  unfold pickF
  have h1 := Int.emod_nonneg x (b := (n : Int)) (by omega)
  have h2 := Int.emod_lt_of_pos x (b := (n : Int)) (by omega)
  omega
theorem kit_Pick_ct {w : World} {x : Int} {n : Nat} (hn : 0 < n) (hn2 : n < 2 ^ 62) : Ct Try.prog 31 #[.int .i64 x, .int .i64 n] w (Is (.int .i64 (pickF x n : Int))) := by
  have hr := Int.tmod_lt_of_pos x (b := (n : Int)) (by omega)
  have hr2 : -(n : Int) < x.tmod n := by
    have h1 := Int.emod_nonneg x (b := (n : Int)) (by omega)
    have h2 := Int.emod_lt_of_pos x (b := (n : Int)) (by omega)
    have h3 := Int.tmod_eq_emod (a := x) (b := (n : Int))
    by_cases hx : 0 ≤ x ∨ (n : Int) ∣ x
    · rw [if_pos hx] at h3; omega
    · rw [if_neg hx] at h3
      have h4 : x % (n : Int) ≠ 0 := fun e => hx (.inr (Int.dvd_of_emod_eq_zero e))
      omega
  have e1 : ¬ (x.tmod n < 0) → x.tmod n = (pickF x n : Int) := fun h => by
    unfold pickF
    have h1 := Int.emod_nonneg x (b := (n : Int)) (by omega)
    have h2 := Int.emod_lt_of_pos x (b := (n : Int)) (by omega)
    have h3 := Int.tmod_eq_emod (a := x) (b := (n : Int))
    rw [Int.toNat_of_nonneg h1]
    split at h3 <;> omega
  have e2 : x.tmod n < 0 → x.tmod n + n = (pickF x n : Int) := fun h => by
    unfold pickF
    have h1 := Int.emod_nonneg x (b := (n : Int)) (by omega)
    have h2 := Int.emod_lt_of_pos x (b := (n : Int)) (by omega)
    have h3 := Int.tmod_eq_emod (a := x) (b := (n : Int))
    rw [Int.toNat_of_nonneg h1]
    split at h3 <;> omega
  refine Ct.mk Try.func31 rfl rfl ?_
  refine Cd.seq ?_
  refine Cd.region ?_
  refine Ol.p asi ?_
  refine Ol.nil ?_
  refine Cd.seq ?_
  refine Cd.seq ?_
  refine Cd.region ?_
  refine Ol.p mvi ?_
  refine Ol.p lsi ?_
  refine Ol.nil ?_
  refine Cd.cond rfl (fun h => ?_) (fun h => ?_)
  · simp at h; omega
  refine Cd.skip ?_
  refine Cd.seq ?_
  refine Cd.region ?_
  refine Ol.p mvi ?_
  refine Ol.p mvi ?_
  refine Ol.p remi ?_
  refine Ol.p asi ?_
  refine Ol.nil ?_
  refine Cd.seq ?_
  refine Cd.seq ?_
  refine Cd.region ?_
  refine Ol.p mvi ?_
  refine Ol.p lsi ?_
  refine Ol.nil ?_
  refine Cd.cond rfl (fun h => ?_) (fun h => ?_)
  · have h' : x.tmod n < 0 := by simpa using h
    refine Cd.region ?_
    refine Ol.p mvi ?_
    refine Ol.p mvi ?_
    refine Ol.p addi ?_
    refine Ol.p asi ?_
    refine Ol.nil ?_
    refine Cd.seq ?_
    refine Cd.region ?_
    refine Ol.p mvi ?_
    refine Ol.p asi ?_
    refine Ol.nil ?_
    refine Cd.ret ⟨_, ret1 rfl rfl, [], .nil, ?_, rfl⟩
    rw [← e2 h']
    rfl
  · have h' : ¬ x.tmod n < 0 := by simpa using h
    refine Cd.skip ?_
    refine Cd.seq ?_
    refine Cd.region ?_
    refine Ol.p mvi ?_
    refine Ol.p asi ?_
    refine Ol.nil ?_
    refine Cd.ret ⟨_, ret1 rfl rfl, [], .nil, ?_, rfl⟩
    rw [← e1 h']
    rfl
end
end Go.Proofs.Ytcojedoejpcolaa

/- The law 03: its example; IrSafe, walked. -/
namespace Go.Proofs.Ytcojedoejpcolaa
set_option linter.unusedVariables false
open Go Go.RowKit
set_option maxRecDepth 100000

theorem reads_no {w : World} {B s : Nat} : Reads w B s none 0 [] := ⟨by simp, fun h => absurd h (by omega)⟩
theorem exposed_mid : ∀ {l : List RIns} {t : Tm} {v : Int} {k : Nat} {i : RIns}, l[k]? = some i → (∀ j, j < k → ∀ i', l[j]? = some i' → defI i' ≠ v) → v ∈ readsL i → exposed l t v = true
  | [], _, _, _, _, h, _, _ => by simp at h
  | a :: l, t, v, 0, i, h, _, hv => by
    have : a = i := by simpa using h
    subst this
    unfold exposed
    rw [Bool.or_eq_true]
    exact .inl (by simpa using hv)
  | a :: l, t, v, k + 1, i, h, hd, hv => by
    unfold exposed
    rw [Bool.or_eq_true, Bool.and_eq_true]
    refine .inr ⟨?_, exposed_mid (k := k) (i := i) (by simpa using h) (fun j hj i' hi' => hd (j + 1) (by omega) i' (by simpa using hi')) hv⟩
    have := hd 0 (by omega) a (by simp)
    simpa using this
theorem exposed_end : ∀ {l : List RIns} {t : Tm} {v : Int}, (∀ i ∈ l, defI i ≠ v) → v ∈ needsL t → exposed l t v = true
  | [], t, v, _, hv => by unfold exposed; simpa using hv
  | a :: l, t, v, hd, hv => by
    unfold exposed
    rw [Bool.or_eq_true, Bool.and_eq_true]
    exact .inr ⟨by simpa using hd a (by simp), exposed_end (fun i hi => hd i (by simp [hi])) hv⟩
section
def I03 : List RIns := [⟨1, 1, 0, 0, 5, 0, none, 0, [], 0⟩]
def B03 (gi : Nat) (a : Int) : RBlk := ⟨some ⟨gi, 0, none⟩, 1, I03, ⟨3, a, 0, 0⟩⟩
def F03 (gb gi : Nat) (a : Int) : RFun := ⟨none, 0, [], some ⟨gb, 0, none⟩, 1, [B03 gi a]⟩
theorem F03_fit {gb gi : Nat} {a : Int} (h : a = 1 ∨ a = 2) : Fit (F03 gb gi a) := by
  rcases h with rfl | rfl <;> constructor <;> simp [F03, B03, I03]
theorem F03_at {w : World} {B gb gi : Nat} {a : Int} (h : Reads w B 5 (some ⟨gb, 0, none⟩) 1 ((F03 gb gi a).blocks.flatMap RBlk.cells)) (hi : Reads w B 8 (some ⟨gi, 0, none⟩) 1 (I03.flatMap RIns.cells)) : FunAt w B (F03 gb gi a) := by
  refine ⟨reads_no, h, ?_, ?_⟩
  · intro b hb
    simp [F03] at hb
    subst hb
    exact hi
  · intro b hb i hi
    simp [F03] at hb
    subst hb
    simp [B03, I03] at hi
    subst hi
    exact reads_no
theorem F03_blk {gb gi b : Nat} {a : Int} {x : RBlk} (hx : (F03 gb gi a).blocks[b]? = some x) : b = 0 ∧ x = B03 gi a := by
  have h0 : b = 0 := by
    have := (List.getElem?_eq_some_iff.1 hx).1
    simp [F03] at this; exact this
  subst h0
  exact ⟨rfl, by simpa [F03] using hx.symm⟩
theorem F03_ord {gb gi : Nat} {a : Int} (h : a = 1 ∨ a = 2) : decide ((orderF (F03 gb gi a).terms).length < (F03 gb gi a).blocks.length) = false := by
  rw [decide_eq_false_iff_not]
  have : (0 : Nat) ∈ orderF (F03 gb gi a).terms := by
    rcases h with rfl | rfl
    · exact List.contains_iff_mem.1 (show (orderF [(⟨3, 1, 0, 0⟩ : Tm)]).contains 0 = true by kernel_rfl)
    · exact List.contains_iff_mem.1 (show (orderF [(⟨3, 2, 0, 0⟩ : Tm)]).contains 0 = true by kernel_rfl)
  have h1 := List.length_pos_of_mem this
  have h2 : (F03 gb gi a).blocks.length = 1 := rfl
  omega
theorem e03r : readsL ⟨1, 1, 0, 0, 5, 0, none, 0, [], 0⟩ = [] := by kernel_rfl
theorem e03d : defI ⟨1, 1, 0, 0, 5, 0, none, 0, [], 0⟩ = 1 := by kernel_rfl
theorem F03_r1 {gb gi : Nat} : rightF (F03 gb gi 1) = 0 := by
  rw [rightF_iff]
  refine ⟨by kernel_rfl, by kernel_rfl, by kernel_rfl, by have := F03_ord (gb := gb) (gi := gi) (.inl rfl); simpa using this, ?_⟩
  rw [valuedF_iff]
  intro b x v hx he
  obtain ⟨rfl, rfl⟩ := F03_blk hx
  exfalso
  have e5 : needsL ⟨3, 1, 0, 0⟩ = [1] := by kernel_rfl
  simp [B03, I03, exposed, e03r, e03d, e5] at he
  omega
theorem F03_v2 {gb gi : Nat} : valuedF (F03 gb gi 2) = false := by
  rw [← Bool.not_eq_true, valuedF_iff]
  intro h
  have e5 : needsL ⟨3, 2, 0, 0⟩ = [2] := by kernel_rfl
  refine h 0 (B03 gi 2) 2 rfl ?_ (.zero fun p hp => ?_)
  · simp [B03, I03, exposed, e03r, e03d, e5]
  · simp [F03] at hp
theorem F03_r2 {gb gi : Nat} : rightF (F03 gb gi 2) = 8 := by
  unfold rightF
  rw [show longF (F03 gb gi 2) = false by kernel_rfl, show wholeF (F03 gb gi 2) = true by kernel_rfl, show okEs (F03 gb gi 2).terms = true by kernel_rfl, F03_ord (.inr rfl), F03_v2]
  rfl
theorem F03_vars {gb gi : Nat} : (varsF (F03 gb gi 1)).length = 1 := by kernel_rfl
theorem F03_size {gb gi : Nat} : sizeF (F03 gb gi 1) = 2 := by kernel_rfl
set_option maxHeartbeats 2000000 in
theorem law03_awake_ct {w : World} : Ct Try.prog 12 #[] w (Is (.bool true)) := by
  refine Ct.mk Try.func12 rfl rfl ?_
  refine Cd.seq ?_
  refine Cd.region ?_
  refine Ol.p asb ?_
  refine Ol.nil ?_
  refine Cd.seq ?_
  refine Cd.region ?_
  refine Ol.p (bds (cs := (RIns.cells ⟨1, 1, 0, 0, 5, 0, none, 0, [], 0⟩).toArray) bs_api_Ins zr_api_Ins (hf := by kernel_rfl)) ?_
  refine Ol.x (bsn [RIns.val ⟨1, 1, 0, 0, 5, 0, none, 0, [], 0⟩] sl_L_api_Ins zr_api_Ins (by intro v hv; simp at hv; subst hv; rfl) rfl (by decide) (by decide)) ?_
  rintro _ _ ⟨gi, rfl, rfl⟩
  refine Ol.p (bds (cs := #[.int .i64 3, .int .i64 1, .int .i64 0, .int .i64 0]) bs_api_Term zr_api_Term (hf := by kernel_rfl)) ?_
  refine Ol.p (bds (cs := #[.slice (some ⟨gi, 0, none⟩) 1 1, .int .i64 3, .int .i64 1, .int .i64 0, .int .i64 0]) bs_api_Block zr_api_Block (hf := by kernel_rfl)) ?_
  refine Ol.x (bsn [RBlk.val (B03 gi 1)] sl_L_api_Block zr_api_Block (by intro v hv; simp at hv; subst hv; rfl) rfl (by decide) (by decide)) ?_
  rintro _ _ ⟨gb, rfl, rfl⟩
  refine Ol.p (bds (cs := #[.slice none 0 0, .slice (some ⟨gb, 0, none⟩) 1 1]) bs_api_Func zr_api_Func (hf := by kernel_rfl)) ?_
  refine Ol.x (alc zr_api_Func) ?_
  rintro _ _ ⟨g1, rfl, rfl⟩
  refine Ol.s (stw (vs := #[.slice none 0 0, .slice (some ⟨gb, 0, none⟩) 1 1]) sz_api_Func rfl (by intro u hu; simp at hu; rcases hu with rfl | rfl <;> rfl) (i := 0) rfl rfl) ?_
  refine Ol.nil ?_
  refine Cd.seq ?_
  refine Cd.region ?_
  refine Ol.p (fdl fd_api_Func_1) ?_
  refine Ol.p (ld one_L_api_Block (Rd.blk (i := 0) rfl rfl)) ?_
  refine Ol.p (ixn (ix := 0) sl_L_api_Block (Som.row (i := 1) rfl Nat.one_pos)) ?_
  refine Ol.p (fdp fd_api_Block_0) ?_
  refine Ol.p (ld (v := .slice (some ⟨gi, 0, none⟩) 1 1) one_L_api_Ins (Rd.row (i := 1) rfl rfl)) ?_
  refine Ol.p (bds (cs := #[.int .i64 3, .int .i64 2, .int .i64 0, .int .i64 0]) bs_api_Term zr_api_Term (hf := by kernel_rfl)) ?_
  refine Ol.p (bds (cs := #[.slice (some ⟨gi, 0, none⟩) 1 1, .int .i64 3, .int .i64 2, .int .i64 0, .int .i64 0]) bs_api_Block zr_api_Block (hf := by kernel_rfl)) ?_
  refine Ol.x (bsn [RBlk.val (B03 gi 2)] sl_L_api_Block zr_api_Block (by intro v hv; simp at hv; subst hv; rfl) rfl (by decide) (by decide)) ?_
  rintro _ _ ⟨gb2, rfl, rfl⟩
  refine Ol.p (bds (cs := #[.slice none 0 0, .slice (some ⟨gb2, 0, none⟩) 1 1]) bs_api_Func zr_api_Func (hf := by kernel_rfl)) ?_
  refine Ol.x (alc zr_api_Func) ?_
  rintro _ _ ⟨g2, rfl, rfl⟩
  refine Ol.s (stw (vs := #[.slice none 0 0, .slice (some ⟨gb2, 0, none⟩) 1 1]) sz_api_Func rfl (by intro u hu; simp at hu; rcases hu with rfl | rfl <;> rfl) (i := 0) rfl rfl) ?_
  refine Ol.nil ?_
  have hv := F03_vars (gb := gb) (gi := gi)
  have hf1 : ∀ {M : List Res} {w' : World}, Hp w w.heap.size (M ++ [blk g2 (.cells #[.slice none 0 0, .slice (some ⟨gb2, 0, none⟩) 1 1] 43), row (.slice (some ⟨gb2, 0, none⟩) 1 1) 50 5 1 ((B03 gi 2).cells), blk g1 (.cells #[.slice none 0 0, .slice (some ⟨gb, 0, none⟩) 1 1] 43), row (.slice (some ⟨gb, 0, none⟩) 1 1) 50 5 1 ((B03 gi 1).cells), row (.slice (some ⟨gi, 0, none⟩) 1 1) 25 8 1 (I03.flatMap RIns.cells)]) w' → FunAt w' w'.heap.size (F03 gb gi 1) := fun hh => F03_at (Reads.row hh (i := 3) rfl) (Reads.row hh (i := 4) rfl)
  have hf2 : ∀ {M : List Res} {w' : World}, Hp w w.heap.size (M ++ [blk g2 (.cells #[.slice none 0 0, .slice (some ⟨gb2, 0, none⟩) 1 1] 43), row (.slice (some ⟨gb2, 0, none⟩) 1 1) 50 5 1 ((B03 gi 2).cells), blk g1 (.cells #[.slice none 0 0, .slice (some ⟨gb, 0, none⟩) 1 1] 43), row (.slice (some ⟨gb, 0, none⟩) 1 1) 50 5 1 ((B03 gi 1).cells), row (.slice (some ⟨gi, 0, none⟩) 1 1) 25 8 1 (I03.flatMap RIns.cells)]) w' → FunAt w' w'.heap.size (F03 gb2 gi 2) := fun hh => F03_at (Reads.row hh (i := 1) rfl) (Reads.row hh (i := 4) rfl)
  have hr1 : decide (rightF (F03 gb gi 1) = 0) = true := by rw [F03_r1]; rfl
  have hr2 : decide (rightF (F03 gb2 gi 2) = 8) = true := by rw [F03_r2]; rfl
  have hv1 : decide (((varsF (F03 gb gi 1)).length : Int) = 1) = true := by rw [hv]; rfl
  refine Cd.seq ?_
  refine Cd.region ?_
  refine Ol.p (ldw ag_api_Func (i := 2) rfl rfl) ?_
  refine Ol.s (cl en_ir_Right (fun M w' hh => ir_Right_ct (f := F03 gb gi 1) (hf1 hh) (F03_fit (.inl rfl)))) ?_
  refine Ol.p eqi ?_
  refine Ol.p mvb ?_
  refine Ol.gp hr1 (ldw ag_api_Func (i := 0) rfl rfl) ?_
  refine Ol.gs hr1 (cl en_ir_Right (fun M w' hh => ir_Right_ct (f := F03 gb2 gi 2) (hf2 hh) (F03_fit (.inr rfl)))) ?_
  refine Ol.gp hr1 eqi ?_
  refine Ol.p (pkTb hr1) ?_
  refine Ol.p mvb ?_
  refine Ol.gp hr2 (ldw ag_api_Func (i := 2) rfl rfl) ?_
  refine Ol.gx hr2 (sp_call en_ir_Vars (fun M w' hh => ir_Vars_ct (f := F03 gb gi 1) (hf1 hh) (F03_fit (.inl rfl)))) ?_
  rintro _ _ ⟨_, rfl, A28, c28, rfl, rfl⟩
  refine Ol.gp hr2 (lens sl_L_int) ?_
  refine Ol.gp hr2 eqi ?_
  refine Ol.p (pkTb hr2) ?_
  refine Ol.p mvb ?_
  refine Ol.gp hv1 (ldw ag_api_Func (i := 3) rfl rfl) ?_
  refine Ol.gs hv1 (cl en_ir_Size (fun M w' hh => ir_Size_ct (f := F03 gb gi 1) (F03_at (Reads.row hh (i := 4) rfl) (Reads.row hh (i := 5) rfl)) (F03_fit (.inl rfl)))) ?_
  refine Ol.gp hv1 eqi ?_
  refine Ol.p (pkTb hv1) ?_
  refine Ol.p asb ?_
  refine Ol.nil ?_
  refine Cd.ret ⟨.bool _, ret1 rfl rfl, _, .nil, ?_, rfl⟩
  rw [F03_size]
  rfl
end
section
set_option maxHeartbeats 8000000 in
theorem law03_IrSafe_ct {w : World} {f : RFun} {Aw : Option Addr} {cw : Nat} {way : List Int} (hf : FunAt w w.heap.size f) (hfit : Fit f) (hw : Reads w w.heap.size 1 Aw way.length (ints way)) (hwl : way.length < 2 ^ 60) : Ct Try.prog 4 #[f.val, .slice Aw way.length cw] w (Is (.bool true)) := by
  have hbl := hfit.blen
  have hpl := hfit.plen
  refine Ct.mk Try.func4 rfl rfl ?_
  refine Cd.seq ?_
  refine Cd.region ?_
  refine Ol.x bxg ?_
  rintro _ _ ⟨g2, rfl, rfl⟩
  refine Ol.p asb ?_
  refine Ol.nil ?_
  refine Cd.seq ?_
  refine Cd.seq ?_
  refine Cd.region ?_
  refine Ol.s (cl en_law03_awake (fun M w' hh => law03_awake_ct)) ?_
  refine Ol.p noti ?_
  refine Ol.nil ?_
  refine Cd.cond rfl (fun h => by cases h) (fun h => ?_)
  refine Cd.skip ?_
  refine Cd.seq ?_
  refine Cd.mid (fun σ' L' => ∃ b : Bool, (b = false → way.length ≤ 300 ∧ rightF f = 0) ∧ Has σ' [(1, .slice Aw way.length cw), (2, .pointer (some ⟨g2, 0, none⟩)), (29, .bool b)] ∧ [blk g2 (.cells f.cells.toArray 43)] = L') ?_ ?_
  · skip
    refine Cd.region ?_
    refine Ol.p (ldw ag_api_Func (i := 0) rfl rfl) ?_
    refine Ol.x (sp_call en_kit_FuncOf (fun M w' hh => kit_FuncOf_ct (hf.now hh) hfit (most := 700) (by decide))) ?_
    rintro _ _ ⟨_, rfl, N, rfl, hN1, hN2, rfl⟩
    cases h3 : decide ((700 : Int) < (N : Int)) with
    | true =>
      refine Ol.p gti ?_
      refine Ol.p mvb ?_
      refine Ol.gn h3 ?_
      refine Ol.gn h3 ?_
      refine Ol.gn h3 ?_
      refine Ol.p (pkTb h3) ?_
      refine Ol.p mvb ?_
      refine Ol.gn rfl ?_
      refine Ol.gn rfl ?_
      refine Ol.gn rfl ?_
      refine Ol.p (pkTb rfl) ?_
      refine Ol.nil ?_
      exact ⟨true, (fun h => by cases h), ⟨rfl, rfl, rfl, trivial⟩, rfl⟩
    | false =>
      cases h8 : decide ((300 : Int) < (way.length : Int)) with
      | true =>
        refine Ol.p gti ?_
        refine Ol.p mvb ?_
        refine Ol.gp h3 mvs ?_
        refine Ol.gp h3 (lens sl_L_int) ?_
        refine Ol.gp h3 gti ?_
        refine Ol.p (pkFb h3) ?_
        refine Ol.p mvb ?_
        refine Ol.gn h8 ?_
        refine Ol.gn h8 ?_
        refine Ol.gn h8 ?_
        refine Ol.p (pkTb h8) ?_
        refine Ol.nil ?_
        exact ⟨true, (fun h => by cases h), ⟨rfl, rfl, rfl, trivial⟩, rfl⟩
      | false =>
        refine Ol.p gti ?_
        refine Ol.p mvb ?_
        refine Ol.gp h3 mvs ?_
        refine Ol.gp h3 (lens sl_L_int) ?_
        refine Ol.gp h3 gti ?_
        refine Ol.p (pkFb h3) ?_
        refine Ol.p mvb ?_
        refine Ol.gp h8 (ldw ag_api_Func (i := 0) rfl rfl) ?_
        refine Ol.gs h8 (cl en_ir_Right (fun M w' hh => ir_Right_ct (hf.now hh) hfit)) ?_
        refine Ol.gp h8 nei ?_
        refine Ol.p (pkFb h8) ?_
        refine Ol.nil ?_
        exact ⟨_, (fun h => ⟨by simp only [decide_eq_false_iff_not] at h8; omega, by simpa using h⟩), ⟨rfl, rfl, rfl, trivial⟩, rfl⟩
  rintro σ' _ ⟨b29, hb29, hs', rfl⟩
  refine Cd.has hs' ?_
  refine Cd.cond rfl (fun h => ?_) (fun h => ?_)
  · refine Cd.seq ?_
    refine Cd.region ?_
    refine Ol.p asb ?_
    refine Ol.nil ?_
    exact Cd.ret ⟨.bool _, ret1 rfl rfl, [], .nil, rfl, rfl⟩
  obtain ⟨hw300, hr⟩ := hb29 h
  clear hs' h hb29
  obtain ⟨hlong, hwhole, hok, hord, hval⟩ := rightF_iff.1 hr
  obtain ⟨h0, h200, h8, h64⟩ := long_parts hlong
  have hprm := whole_params hwhole
  refine Cd.skip ?_
  refine Cd.seq ?_
  refine Cd.region ?_
  refine Ol.x (alc zr_A201_bool) ?_
  rintro _ _ ⟨g5, rfl, rfl⟩
  refine Ol.nil ?_
  -- the parameters
  refine Cd.mid (fun σ' L' => ∃ S : VS, (∀ v, S v = false → ∀ p ∈ f.params, p.toNat ≠ v) ∧ Has σ' [(1, .slice Aw way.length cw), (2, .pointer (some ⟨g2, 0, none⟩)), (5, .pointer (some ⟨g5, 0, none⟩))] ∧ [blk g5 (.cells (encV S) 47), blk g2 (.cells f.cells.toArray 43)] = L') ?_ ?_
  · refine Cd.seq ?_
    refine Cd.region ?_
    refine Ol.p asi ?_
    refine Ol.nil ?_
    refine Cd.block ?_
    refine Cd.loop (fun m σ L => ∃ k, m = f.params.length - k ∧ k ≤ f.params.length ∧ Has σ [(1, .slice Aw way.length cw), (2, .pointer (some ⟨g2, 0, none⟩)), (5, .pointer (some ⟨g5, 0, none⟩)), (6, .int .i64 k)] ∧ [blk g5 (.cells (encV (putsV noS (f.params.take k) true)) 47), blk g2 (.cells f.cells.toArray 43)] = L) (n := f.params.length) ⟨0, rfl, Nat.zero_le _, ⟨rfl, rfl, rfl, rfl, trivial⟩, by rw [show putsV noS (f.params.take 0) true = fun _ => false from rfl, ← zeroV]; rfl⟩ ?_
    rintro _ σ L ⟨k, rfl, hk, hs, rfl⟩
    refine Cd.has hs ?_
    clear hs
    refine Cd.seq ?_
    refine Cd.seq ?_
    refine Cd.region ?_
    refine Ol.p mvi ?_
    refine Ol.p (fdl fd_api_Func_0) ?_
    refine Ol.p (ld one_L_int (Rd.blk (i := 1) rfl rfl)) ?_
    refine Ol.p (lens sl_L_int) ?_
    refine Ol.p lsi ?_
    refine Ol.nil ?_
    refine Cd.cond rfl (fun h => ?_) (fun h => ?_)
    · have hlt : k < f.params.length := by
        simp only [decide_eq_true_eq] at h; omega
      obtain ⟨n, hn⟩ : ∃ n, f.params[k]? = some n := ⟨_, List.getElem?_eq_getElem hlt⟩
      have hnr := hprm n (List.mem_of_getElem? hn)
      obtain ⟨m, rfl⟩ : ∃ m : Nat, n = (m : Int) := ⟨n.toNat, by omega⟩
      refine Cd.skip ?_
      refine Cd.seq ?_
      refine Cd.block ?_
      refine Cd.region ?_
      refine Ol.p (fdl fd_api_Func_0) ?_
      refine Ol.p (ld one_L_int (Rd.blk (i := 1) rfl rfl)) ?_
      refine Ol.p mvi ?_
      refine Ol.p (ixn1 (ix := k) sl_L_int (Som.slc hf.params (by omega))) ?_
      refine Ol.p (ld one_int (Rd.slc hf.params (ints_at hn))) ?_
      refine Ol.p (ixl1 (ix := m) ar_A201_bool) ?_
      refine Ol.s (sto (v := .bool true) (i := 0) (k := m) (.inr sz_bool) rfl rfl rfl (by rw [encV_size]; omega) rfl) ?_
      refine Ol.nil ?_
      refine Cd.region ?_
      refine Ol.p mvi ?_
      refine Ol.p addi ?_
      refine Ol.p asi ?_
      refine Ol.nil ?_
      refine ⟨f.params.length - (k + 1), by omega, k + 1, rfl, by omega, ⟨rfl, rfl, rfl, rfl, trivial⟩, ?_⟩
      rw [take_snoc_ hn, putsV_snoc, ← encV_set]
      rfl
    have hke : k = f.params.length := by
      simp only [decide_eq_false_iff_not] at h; omega
    refine Cd.exit (id := 0) ⟨putsV noS f.params true, fun v hv p hp e => ?_, ⟨rfl, rfl, rfl, trivial⟩, by rw [hke, List.take_of_length_le (Nat.le_refl _)]⟩
    have : putsV noS f.params true v = true := putsV_iff.2 (.inr ⟨p, hp, e⟩)
    rw [this] at hv; cases hv
  rintro σ' _ ⟨S0, hS0, hs', rfl⟩
  refine Cd.has hs' ?_
  clear hs'
  refine Cd.seq ?_
  refine Cd.region ?_
  refine Ol.p asi ?_
  refine Ol.nil ?_
  -- the way
  refine Cd.mid (fun σ' L' => True) ?_ ?_
  · refine Cd.seq ?_
    refine Cd.region ?_
    refine Ol.p asi ?_
    refine Ol.nil ?_
    refine Cd.block ?_
    refine Cd.loop (fun m σ L => ∃ (k b : Nat) (S : VS), m = way.length - k ∧ k ≤ way.length ∧ b < f.blocks.length ∧ (∀ v, S v = false → Bare f v b) ∧ Has σ [(1, .slice Aw way.length cw), (2, .pointer (some ⟨g2, 0, none⟩)), (5, .pointer (some ⟨g5, 0, none⟩)), (7, .int .i64 b), (8, .int .i64 k)] ∧
      [blk g5 (.cells (encV S) 47), blk g2 (.cells f.cells.toArray 43)] = L) (n := way.length) ⟨0, 0, S0, rfl, Nat.zero_le _, h0, fun v hv => .zero (hS0 v hv), ⟨rfl, rfl, rfl, rfl, rfl, trivial⟩, rfl⟩ ?_
    rintro _ σ L ⟨k, b, S, rfl, hk, hbn, hbare, hs, rfl⟩
    refine Cd.has hs ?_
    clear hs
    have hkw : decide ((k : Int) ≤ (way.length : Int)) = true := by rw [decide_eq_true_iff]; omega
    obtain ⟨x, hx⟩ : ∃ x, f.blocks[b]? = some x := ⟨_, List.getElem?_eq_getElem hbn⟩
    have hxm := List.mem_of_getElem? hx
    have hxl := h64 x hxm
    have hsafe := fun v he => valuedF_iff.1 hval b x v hx he
    have htoL := toL_len x.term
    have hnl := needsL_len x.term
    refine Cd.seq ?_
    refine Cd.seq ?_
    refine Cd.region ?_
    refine Ol.p mvi ?_
    refine Ol.p mvs ?_
    refine Ol.p (lens sl_L_int) ?_
    refine Ol.p lei ?_
    refine Ol.nil ?_
    refine Cd.cond rfl (fun h => ?_) (fun h => by rw [hkw] at h; cases h)
    refine Cd.skip ?_
    refine Cd.seq ?_
    refine Cd.block ?_
    refine Cd.seq ?_
    refine Cd.region ?_
    refine Ol.p (fdl fd_api_Func_1) ?_
    refine Ol.p (ld one_L_api_Block (Rd.blk (i := 1) rfl rfl)) ?_
    refine Ol.p mvi ?_
    refine Ol.p (ixn (ix := b) sl_L_api_Block (Som.slc hf.blocks (by omega))) ?_
    refine Ol.p (lds (es := x.cells) ag_api_Block hf.blocks x.len (fun j u hu => blk_cell hx hu)) ?_
    refine Ol.x (alc zr_api_Block) ?_
    rintro _ _ ⟨g9, rfl, rfl⟩
    refine Ol.s (stw (vs := x.cells.toArray) sz_api_Block rfl x.one (i := 0) rfl rfl) ?_
    refine Ol.nil ?_
    refine Cd.mid (fun σ' L' => ∃ S' : VS, (∀ v, S' v = false → Bare f v b ∧ ∀ i ∈ x.ins, (defI i).toNat ≠ v) ∧ Has σ' [(1, .slice Aw way.length cw), (2, .pointer (some ⟨g2, 0, none⟩)), (5, .pointer (some ⟨g5, 0, none⟩)), (7, .int .i64 b), (8, .int .i64 k), (9, .pointer (some ⟨g9, 0, none⟩))] ∧
      [blk g9 (.cells x.cells.toArray 50), blk g5 (.cells (encV S') 47), blk g2 (.cells f.cells.toArray 43)] = L') ?_ ?_
    · refine Cd.seq ?_
      refine Cd.region ?_
      refine Ol.p asi ?_
      refine Ol.nil ?_
      refine Cd.block ?_
      refine Cd.loop (fun m σ L => ∃ (q : Nat) (S' : VS), m = x.ins.length - q ∧ q ≤ x.ins.length ∧ (∀ v, S' v = false → Bare f v b ∧ ∀ j, j < q → ∀ i, x.ins[j]? = some i → (defI i).toNat ≠ v) ∧ Has σ [(1, .slice Aw way.length cw), (2, .pointer (some ⟨g2, 0, none⟩)), (5, .pointer (some ⟨g5, 0, none⟩)), (7, .int .i64 b), (8, .int .i64 k), (9, .pointer (some ⟨g9, 0, none⟩)), (10, .int .i64 q)] ∧
        [blk g9 (.cells x.cells.toArray 50), blk g5 (.cells (encV S') 47), blk g2 (.cells f.cells.toArray 43)] = L) (n := x.ins.length) ⟨0, S, rfl, Nat.zero_le _, fun v hv => ⟨hbare v hv, fun j hj => by omega⟩, ⟨rfl, rfl, rfl, rfl, rfl, rfl, rfl, trivial⟩, rfl⟩ ?_
      rintro _ σ L ⟨q, S', rfl, hq, hbr, hs, rfl⟩
      refine Cd.has hs ?_
      clear hs
      refine Cd.seq ?_
      refine Cd.seq ?_
      refine Cd.region ?_
      refine Ol.p mvi ?_
      refine Ol.p (fdl fd_api_Block_0) ?_
      refine Ol.p (ld one_L_api_Ins (Rd.blk (i := 0) rfl rfl)) ?_
      refine Ol.p (lens sl_L_api_Ins) ?_
      refine Ol.p lsi ?_
      refine Ol.nil ?_
      refine Cd.cond rfl (fun h => ?_) (fun h => ?_)
      · have hql : q < x.ins.length := by
          simp only [decide_eq_true_eq] at h; omega
        obtain ⟨i, hi⟩ : ∃ i, x.ins[q]? = some i := ⟨_, List.getElem?_eq_getElem hql⟩
        have him := List.mem_of_getElem? hi
        have hrl := readsL_len i
        have hal := hfit.alen x hxm i him
        have hdr := defI_range i
        have hia : ∀ {M : List Res} {w' : World}, Hp w w.heap.size M w' → InsAt w' i := fun hh => ⟨(hf.args x hxm i him).now hh, hal, hfit.insr x hxm i him i.callee (by simp)⟩
        obtain ⟨dn, hdn⟩ : ∃ dn : Nat, defI i = (dn : Int) := ⟨(defI i).toNat, by omega⟩
        refine Cd.skip ?_
        refine Cd.seq ?_
        refine Cd.block ?_
        refine Cd.seq ?_
        refine Cd.region ?_
        refine Ol.p (fdl fd_api_Block_0) ?_
        refine Ol.p (ld one_L_api_Ins (Rd.blk (i := 0) rfl rfl)) ?_
        refine Ol.p mvi ?_
        refine Ol.p (ixn (ix := q) sl_L_api_Ins (Som.slc (hf.ins x hxm) (by omega))) ?_
        refine Ol.p (lds (es := i.cells) ag_api_Ins (hf.ins x hxm) i.len (fun j u hu => ins_cell hi hu)) ?_
        refine Ol.x (sp_call en_ir_Reads (fun M w' hh => ir_Reads_ct (hia hh))) ?_
        rintro _ _ ⟨_, rfl, A66, c66, rfl, rfl⟩
        refine Ol.p ass ?_
        refine Ol.nil ?_
        refine Cd.mid (fun σ' L' => Has σ' [(1, .slice Aw way.length cw), (2, .pointer (some ⟨g2, 0, none⟩)), (5, .pointer (some ⟨g5, 0, none⟩)), (7, .int .i64 b), (8, .int .i64 k), (9, .pointer (some ⟨g9, 0, none⟩)), (10, .int .i64 q)] ∧
          [blk g9 (.cells x.cells.toArray 50), blk g5 (.cells (encV S') 47), blk g2 (.cells f.cells.toArray 43)] = L') ?_ ?_
        · refine Cd.seq ?_
          refine Cd.region ?_
          refine Ol.p asi ?_
          refine Ol.nil ?_
          refine Cd.block ?_
          refine Cd.loop (fun m σ L => ∃ j, m = (readsL i).length - j ∧ j ≤ (readsL i).length ∧ Has σ [(1, .slice Aw way.length cw), (2, .pointer (some ⟨g2, 0, none⟩)), (5, .pointer (some ⟨g5, 0, none⟩)), (7, .int .i64 b), (8, .int .i64 k), (9, .pointer (some ⟨g9, 0, none⟩)), (10, .int .i64 q), (11, .slice A66 (readsL i).length c66), (12, .int .i64 j)] ∧
            [row (.slice A66 (readsL i).length c66) 3 1 (readsL i).length (ints (readsL i)), blk g9 (.cells x.cells.toArray 50), blk g5 (.cells (encV S') 47), blk g2 (.cells f.cells.toArray 43)] = L) (n := (readsL i).length) ⟨0, rfl, Nat.zero_le _, ⟨rfl, rfl, rfl, rfl, rfl, rfl, rfl, rfl, rfl, trivial⟩, rfl⟩ ?_
          rintro _ σ L ⟨j, rfl, hj, hs, rfl⟩
          refine Cd.has hs ?_
          clear hs
          refine Cd.seq ?_
          refine Cd.seq ?_
          refine Cd.region ?_
          refine Ol.p mvi ?_
          refine Ol.p mvs ?_
          refine Ol.p (lens sl_L_int) ?_
          refine Ol.p lsi ?_
          refine Ol.nil ?_
          refine Cd.cond rfl (fun h2 => ?_) (fun h2 => ?_)
          · have hjl : j < (readsL i).length := by
              simp only [decide_eq_true_eq] at h2; omega
            obtain ⟨n, hn⟩ : ∃ n, (readsL i)[j]? = some n := ⟨_, List.getElem?_eq_getElem hjl⟩
            have hnm := List.mem_of_getElem? hn
            have hnr := readsL_mem hnm
            obtain ⟨m, rfl⟩ : ∃ m : Nat, n = (m : Int) := ⟨n.toNat, by omega⟩
            have hSm : S' m = true := by
              cases hc : S' m with
              | true => rfl
              | false =>
                obtain ⟨h5, h6⟩ := hbr m hc
                refine absurd h5 ?_
                have := hsafe (m : Int) (exposed_mid hi (fun j' hj' i' hi' e => h6 j' hj' i' hi' (by rw [e]; simp)) hnm)
                simpa using this
            refine Cd.skip ?_
            refine Cd.seq ?_
            refine Cd.block ?_
            refine Cd.seq ?_
            refine Cd.region ?_
            refine Ol.p mvs ?_
            refine Ol.p mvi ?_
            refine Ol.p (ixn1 (ix := j) sl_L_int (Som.row (i := 0) rfl (by omega))) ?_
            refine Ol.p (ld one_int (Rd.row (i := 0) rfl (ints_at hn))) ?_
            refine Ol.p (ixl1 (ix := m) ar_A201_bool) ?_
            refine Ol.p (ld one_bool (Rd.blk (i := 2) rfl (encV_get (i := m) (by omega)))) ?_
            refine Ol.p noti ?_
            refine Ol.nil ?_
            refine Cd.cond rfl (fun h3 => by rw [hSm] at h3; cases h3) (fun h3 => ?_)
            refine Cd.skip ?_
            refine Cd.region ?_
            refine Ol.p mvi ?_
            refine Ol.p addi ?_
            refine Ol.p asi ?_
            refine Ol.nil ?_
            exact ⟨(readsL i).length - (j + 1), by omega, j + 1, rfl, by omega, ⟨rfl, rfl, rfl, rfl, rfl, rfl, rfl, rfl, rfl, trivial⟩, rfl⟩
          refine Cd.keep (.sub (.cons _ (List.Sublist.refl _))) ?_
          exact Cd.exit (id := 6) ⟨⟨rfl, rfl, rfl, rfl, rfl, rfl, rfl, trivial⟩, rfl⟩
        rintro σ' _ ⟨hs', rfl⟩
        refine Cd.has hs' ?_
        clear hs'
        refine Cd.region ?_
        refine Ol.p (fdl fd_api_Block_0) ?_
        refine Ol.p (ld one_L_api_Ins (Rd.blk (i := 0) rfl rfl)) ?_
        refine Ol.p mvi ?_
        refine Ol.p (ixn (ix := q) sl_L_api_Ins (Som.slc (hf.ins x hxm) (by omega))) ?_
        refine Ol.p (lds (es := i.cells) ag_api_Ins (hf.ins x hxm) i.len (fun j u hu => ins_cell hi hu)) ?_
        refine Ol.s (cl (v := .int .i64 (dn : Int)) en_ir_Defines (fun M w' hh => by have := ir_Defines_ct (hia hh); rw [hdn] at this; exact this)) ?_
        refine Ol.p (ixl1 (ix := dn) ar_A201_bool) ?_
        refine Ol.s (sto (v := .bool true) (i := 1) (k := dn) (.inr sz_bool) rfl rfl rfl (by rw [encV_size]; omega) rfl) ?_
        refine Ol.nil ?_
        rw [encV_set]
        refine Cd.region ?_
        refine Ol.p mvi ?_
        refine Ol.p addi ?_
        refine Ol.p asi ?_
        refine Ol.nil ?_
        refine ⟨x.ins.length - (q + 1), by omega, q + 1, putV S' dn true, rfl, by omega, fun v hv => ?_, ⟨rfl, rfl, rfl, rfl, rfl, rfl, rfl, trivial⟩, rfl⟩
        unfold putV at hv
        by_cases e : v = dn
        · rw [if_pos e] at hv; cases hv
        · rw [if_neg e] at hv
          obtain ⟨h5, h6⟩ := hbr v hv
          refine ⟨h5, fun j hj i' hi' => ?_⟩
          by_cases ej : j = q
          · subst ej
            rw [hi] at hi'; cases hi'
            rw [hdn]; simpa using fun e2 => e e2.symm
          · exact h6 j (by omega) i' hi'
      have hqe : q = x.ins.length := by
        simp only [decide_eq_false_iff_not] at h; omega
      refine Cd.exit (id := 4) ⟨S', fun v hv => ⟨(hbr v hv).1, fun i hi => ?_⟩, ⟨rfl, rfl, rfl, rfl, rfl, rfl, trivial⟩, rfl⟩
      obtain ⟨j, hj⟩ := List.mem_iff_getElem?.1 hi
      exact (hbr v hv).2 j (by rw [hqe]; exact (List.getElem?_eq_some_iff.1 hj).1) i hj
    clear hbare
    rintro σ' _ ⟨S', hbr, hs', rfl⟩
    refine Cd.has hs' ?_
    clear hs'
    refine Cd.seq ?_
    refine Cd.region ?_
    refine Ol.p (fdl fd_api_Block_1) ?_
    refine Ol.p (ldp (k := 0 + 1) (vs := x.term.cells.toArray) ag_api_Term (i := 0) rfl rfl (fun j u hu => by rw [Nat.zero_add, Nat.add_comm]; simpa [RBlk.cells] using hu)) ?_
    refine Ol.x (sp_call en_ir_Needs (fun M w' hh => ir_Needs_ct (t := x.term))) ?_
    rintro _ _ ⟨_, rfl, A89, c89, rfl, rfl⟩
    refine Ol.p ass ?_
    refine Ol.nil ?_
    refine Cd.seq ?_
    refine Cd.region ?_
    refine Ol.p (fdl fd_api_Block_1) ?_
    refine Ol.p (ldp (k := 0 + 1) (vs := x.term.cells.toArray) ag_api_Term (i := 1) rfl rfl (fun j u hu => by rw [Nat.zero_add, Nat.add_comm]; simpa [RBlk.cells] using hu)) ?_
    refine Ol.x (sp_call en_ir_To (fun M w' hh => ir_To_ct (t := x.term))) ?_
    rintro _ _ ⟨_, rfl, A92, c92, rfl, rfl⟩
    refine Ol.p ass ?_
    refine Ol.nil ?_
    refine Cd.seq ?_
    refine Cd.mid (fun σ' L' => Has σ' [(1, .slice Aw way.length cw), (2, .pointer (some ⟨g2, 0, none⟩)), (5, .pointer (some ⟨g5, 0, none⟩)), (8, .int .i64 k), (14, .slice A92 (toL x.term).length c92), (103, .bool false)] ∧
      [row (.slice A92 (toL x.term).length c92) 3 1 (toL x.term).length (ints (toL x.term)), blk g5 (.cells (encV S') 47), blk g2 (.cells f.cells.toArray 43)] = L') ?_ ?_
    · cases hn0 : decide ((0 : Int) < ((needsL x.term).length : Int)) with
      | false =>
        refine Cd.region ?_
        refine Ol.p mvs ?_
        refine Ol.p (lens sl_L_int) ?_
        refine Ol.p gti ?_
        refine Ol.p mvb ?_
        refine Ol.gn hn0 ?_
        refine Ol.gn hn0 ?_
        refine Ol.gn hn0 ?_
        refine Ol.gn hn0 ?_
        refine Ol.gn hn0 ?_
        refine Ol.gn hn0 ?_
        refine Ol.p (pkFb hn0) ?_
        refine Ol.keep (.sub (.cons_cons _ (.cons _ (.cons _ (List.Sublist.refl _))))) ?_
        refine Ol.nil ?_
        exact ⟨⟨rfl, rfl, rfl, rfl, rfl, rfl, trivial⟩, rfl⟩
      | true =>
        have hnl0 : 0 < (needsL x.term).length := by
          simp only [decide_eq_true_eq] at hn0; omega
        obtain ⟨n, hn⟩ : ∃ n, (needsL x.term)[0]? = some n := ⟨_, List.getElem?_eq_getElem hnl0⟩
        have hnm := List.mem_of_getElem? hn
        have hnr := needsL_mem hnm
        obtain ⟨m, rfl⟩ : ∃ m : Nat, n = (m : Int) := ⟨n.toNat, by omega⟩
        have hSm : S' m = true := by
          cases hc : S' m with
          | true => rfl
          | false =>
            obtain ⟨h5, h6⟩ := hbr m hc
            refine absurd h5 ?_
            have := hsafe (m : Int) (exposed_end (fun i' hi' e => h6 i' hi' (by rw [e]; simp)) hnm)
            simpa using this
        refine Cd.region ?_
        refine Ol.p mvs ?_
        refine Ol.p (lens sl_L_int) ?_
        refine Ol.p gti ?_
        refine Ol.p mvb ?_
        refine Ol.gp hn0 mvs ?_
        refine Ol.gp hn0 (ixn1 (ix := 0) sl_L_int (Som.row (i := 1) rfl hnl0)) ?_
        refine Ol.gp hn0 (ld one_int (Rd.row (i := 1) rfl (ints_at hn))) ?_
        refine Ol.gp hn0 (ixl1 (ix := m) ar_A201_bool) ?_
        refine Ol.gp hn0 (ld one_bool (Rd.blk (i := 3) rfl (encV_get (i := m) (by omega)))) ?_
        refine Ol.gp hn0 noti ?_
        refine Ol.p (pkTb hn0) ?_
        refine Ol.keep (.sub (.cons_cons _ (.cons _ (.cons _ (List.Sublist.refl _))))) ?_
        refine Ol.nil ?_
        exact ⟨⟨rfl, rfl, rfl, rfl, rfl, by show Value.bool _ = _; rw [hSm]; rfl, trivial⟩, rfl⟩
    rintro σ' _ ⟨hs', rfl⟩
    refine Cd.has hs' ?_
    clear hs'
    refine Cd.cond rfl (fun h => by cases h) (fun h => ?_)
    refine Cd.skip ?_
    refine Cd.seq ?_
    refine Cd.seq ?_
    cases hz : decide (((toL x.term).length : Int) = 0) with
    | true =>
      refine Cd.region ?_
      refine Ol.p mvs ?_
      refine Ol.p (lens sl_L_int) ?_
      refine Ol.p eqi ?_
      refine Ol.p mvb ?_
      refine Ol.gn hz ?_
      refine Ol.gn hz ?_
      refine Ol.gn hz ?_
      refine Ol.gn hz ?_
      refine Ol.p (pkTb hz) ?_
      refine Ol.nil ?_
      refine Cd.cond rfl (fun h => ?_) (fun h => by cases h)
      refine Cd.seq ?_
      refine Cd.region ?_
      refine Ol.p asb ?_
      refine Ol.nil ?_
      exact Cd.ret ⟨.bool _, ret1 rfl rfl, [], .nil, rfl, rfl⟩
    | false =>
      refine Cd.region ?_
      refine Ol.p mvs ?_
      refine Ol.p (lens sl_L_int) ?_
      refine Ol.p eqi ?_
      refine Ol.p mvb ?_
      refine Ol.gp hz mvi ?_
      refine Ol.gp hz mvs ?_
      refine Ol.gp hz (lens sl_L_int) ?_
      refine Ol.gp hz eqi ?_
      refine Ol.p (pkFb hz) ?_
      refine Ol.nil ?_
      refine Cd.cond rfl (fun h => ?_) (fun h => ?_)
      · refine Cd.seq ?_
        refine Cd.region ?_
        refine Ol.p asb ?_
        refine Ol.nil ?_
        exact Cd.ret ⟨.bool _, ret1 rfl rfl, [], .nil, rfl, rfl⟩
      have hklt : k < way.length := by
        simp only [decide_eq_false_iff_not] at h; omega
      have hz0 : 0 < (toL x.term).length := by
        simp only [decide_eq_false_iff_not] at hz; omega
      obtain ⟨wv, hwv⟩ : ∃ wv, way[k]? = some wv := ⟨_, List.getElem?_eq_getElem hklt⟩
      obtain ⟨n, hn⟩ : ∃ n, (toL x.term)[pickF wv (toL x.term).length]? = some n := ⟨_, List.getElem?_eq_getElem (pickF_lt hz0)⟩
      have hnm := List.mem_of_getElem? hn
      have hnr := okEs_at hok (a := b) (n := n) (by rw [toAt_some (show f.terms[b]? = some x.term by simp [RFun.terms, hx])]; exact hnm)
      have htl : f.terms.length = f.blocks.length := by simp [RFun.terms]
      obtain ⟨nx, rfl⟩ : ∃ nx : Nat, n = (nx : Int) := ⟨n.toNat, by omega⟩
      have hg2 : decide ((nx : Int) < 1) = false := by rw [decide_eq_false_iff_not]; omega
      refine Cd.skip ?_
      refine Cd.seq ?_
      refine Cd.region ?_
      refine Ol.p mvs ?_
      refine Ol.p mvs ?_
      refine Ol.p mvi ?_
      refine Ol.p (ixn1 (ix := k) sl_L_int (Som.slc hw (by omega))) ?_
      refine Ol.p (ld one_int (Rd.slc hw (ints_at hwv))) ?_
      refine Ol.p mvs ?_
      refine Ol.p (lens sl_L_int) ?_
      refine Ol.s (cl en_kit_Pick (fun M w' hh => kit_Pick_ct (x := wv) (n := (toL x.term).length) hz0 (by omega))) ?_
      refine Ol.p (ixn1 (ix := pickF wv (toL x.term).length) sl_L_int (Som.row (i := 0) rfl hz0) (h := pickF_lt hz0)) ?_
      refine Ol.p (ld one_int (Rd.row (i := 0) rfl (ints_at hn))) ?_
      refine Ol.p asi ?_
      refine Ol.keep (.sub (.cons _ (List.Sublist.refl _))) ?_
      refine Ol.nil ?_
      refine Cd.seq ?_
      refine Cd.region ?_
      refine Ol.p mvi ?_
      refine Ol.p lsi ?_
      refine Ol.p mvb ?_
      refine Ol.gp hg2 mvi ?_
      refine Ol.gp hg2 (fdl fd_api_Func_1) ?_
      refine Ol.gp hg2 (ld one_L_api_Block (Rd.blk (i := 1) rfl rfl)) ?_
      refine Ol.gp hg2 (lens sl_L_api_Block) ?_
      refine Ol.gp hg2 gei ?_
      refine Ol.p (pkFb hg2) ?_
      refine Ol.nil ?_
      refine Cd.cond rfl (fun h => by simp only [decide_eq_true_eq] at h; omega) (fun h => ?_)
      refine Cd.skip ?_
      refine Cd.region ?_
      refine Ol.p mvi ?_
      refine Ol.p addi ?_
      refine Ol.p asi ?_
      refine Ol.nil ?_
      exact ⟨way.length - (k + 1), by omega, k + 1, nx, S', rfl, by omega, by omega, fun v hv => .step (hbr v hv).1 hx (hbr v hv).2 hnm, ⟨rfl, rfl, rfl, rfl, rfl, trivial⟩, rfl⟩
  rintro σ' L' _
  refine Cd.seq ?_
  refine Cd.region ?_
  refine Ol.p asb ?_
  refine Ol.nil ?_
  exact Cd.ret ⟨.bool _, ret1 rfl rfl, [], .nil, rfl, rfl⟩
end
end Go.Proofs.Ytcojedoejpcolaa

/- Plain law: a function whose variables are renamed, one to one. -/
namespace Go.Proofs.Ytcojedoejpcolaa
set_option linter.unusedVariables false
open Go Go.RowKit

/-- A renaming: none stays, variables go to variables, one to one, all of them. -/
structure Rnm (r : Int → Int) (rN : Nat → Nat) : Prop where
  var : ∀ n, varB (r n) = varB n
  stay : ∀ n, varB n = false → r n = n
  inj : ∀ a b, r a = r b → a = b
  onto : ∀ n, ∃ m, r m = n
  nat : ∀ n : Nat, r (n : Int) = ((rN n : Nat) : Int)
section
variable {r : Int → Int} {rN : Nat → Nat}
theorem Rnm.zero (h : Rnm r rN) : r 0 = 0 := h.stay 0 (by decide)
theorem Rnm.iff0 (h : Rnm r rN) (n : Int) : r n = 0 ↔ n = 0 := ⟨fun e => h.inj n 0 (by rw [e, h.zero]), fun e => by rw [e, h.zero]⟩
theorem Rnm.dec0 (h : Rnm r rN) (n : Int) : decide (r n = 0) = decide (n = 0) := by rw [decide_eq_decide]; exact h.iff0 n
theorem Rnm.fits (h : Rnm r rN) (b : Bool) (n : Int) : fitsB b (r n) = fitsB b n := by
  unfold fitsB
  cases b
  · rw [cond_false, cond_false, h.dec0]
  · rw [cond_true, cond_true, h.var]
def renT (r : Int → Int) (t : Tm) : Tm := { t with a := r t.a }
def renI (r : Int → Int) (i : RIns) : RIns := { i with dst := r i.dst, a := r i.a, b := r i.b, args := i.args.map r }
def renB (r : Int → Int) (b : RBlk) : RBlk := { b with ins := b.ins.map (renI r), term := renT r b.term }
def renF (r : Int → Int) (f : RFun) : RFun := { f with params := f.params.map r, blocks := f.blocks.map (renB r) }
theorem isTerm_ren (h : Rnm r rN) (t : Tm) : isTerm (renT r t) = isTerm t := by
  unfold isTerm renT noneB
  simp only [List.all_cons, List.all_nil, h.dec0, h.var, h.fits]
theorem toL_ren (h : Rnm r rN) (t : Tm) : toL (renT r t) = toL t := by
  unfold toL
  rw [isTerm_ren h]
  rfl
theorem needsL_ren (h : Rnm r rN) (t : Tm) : needsL (renT r t) = (needsL t).map r := by
  unfold needsL
  rw [isTerm_ren h]
  show (bif isTerm t && !decide (r t.a = 0) then [r t.a] else []) = _
  rw [h.dec0]
  cases isTerm t && !decide (t.a = 0) <;> rfl
theorem isIns_ren (h : Rnm r rN) (i : RIns) : isIns (renI r i) = isIns i := by
  unfold isIns renI noneB
  simp only [List.all_cons, List.all_nil, h.dec0, h.var, h.fits, List.length_map, List.all_map, Function.comp_def]
theorem readsL_ren (h : Rnm r rN) (i : RIns) : readsL (renI r i) = (readsL i).map r := by
  unfold readsL
  rw [isIns_ren h]
  cases isIns i with
  | false => rfl
  | true =>
    rw [cond_true, cond_true, List.map_append]
    congr 1
    show [r i.a, r i.b].filter (fun n => !decide (n = 0)) = _
    simp only [List.filter_cons, List.filter_nil, h.dec0]
    cases decide (i.a = 0) <;> cases decide (i.b = 0) <;> simp
theorem defI_ren (h : Rnm r rN) (i : RIns) : defI (renI r i) = r (defI i) := by
  unfold defI
  rw [isIns_ren h]
  cases isIns i with
  | false => rw [cond_false, cond_false, h.zero]
  | true => rfl
theorem mem_ren (h : Rnm r rN) {l : List Int} {v : Int} : r v ∈ l.map r ↔ v ∈ l := by
  rw [List.mem_map]
  exact ⟨fun ⟨m, hm, e⟩ => h.inj _ _ e ▸ hm, fun hv => ⟨v, hv, rfl⟩⟩
theorem exposed_ren (h : Rnm r rN) : ∀ (l : List RIns) (t : Tm) (v : Int), exposed (l.map (renI r)) (renT r t) (r v) = exposed l t v
  | [], t, v => by
    show (needsL (renT r t)).contains (r v) = (needsL t).contains v
    rw [needsL_ren h, Bool.eq_iff_iff, List.contains_iff_mem, List.contains_iff_mem, mem_ren h]
  | i :: l, t, v => by
    show ((readsL (renI r i)).contains (r v) || (!decide (defI (renI r i) = r v) && exposed (l.map (renI r)) (renT r t) (r v))) = ((readsL i).contains v || (!decide (defI i = v) && exposed l t v))
    rw [exposed_ren h l t v, readsL_ren h, defI_ren h]
    have e1 : ((readsL i).map r).contains (r v) = (readsL i).contains v := by rw [Bool.eq_iff_iff, List.contains_iff_mem, List.contains_iff_mem, mem_ren h]
    have e2 : decide (r (defI i) = r v) = decide (defI i = v) := by rw [decide_eq_decide]; exact ⟨h.inj _ _, fun e => by rw [e]⟩
    rw [e1, e2]
theorem terms_ren (f : RFun) : (renF r f).terms = f.terms.map (renT r) := by
  unfold RFun.terms renF
  rw [List.map_map, List.map_map]; rfl
theorem toAt_ren (h : Rnm r rN) (ts : List Tm) (b : Nat) : toAt (ts.map (renT r)) b = toAt ts b := by
  unfold toAt
  rw [List.getElem?_map]
  cases ts[b]? with
  | none => rfl
  | some t => exact toL_ren h t
theorem okEs_ren (h : Rnm r rN) (ts : List Tm) : okEs (ts.map (renT r)) = okEs ts := by
  unfold okEs
  rw [List.all_map, List.length_map]
  congr 1
  funext t
  simp only [Function.comp, toL_ren h]
theorem dfs_congr {ts ts' : List Tm} (h : ∀ b, toAt ts' b = toAt ts b) : ∀ (n b : Nat) (st : Dst), dfs ts' n b st = dfs ts n b st
  | 0, _, _ => rfl
  | n + 1, b, st => by
    have : (fun st (t : Int) => dfs ts' n t.toNat st) = fun st t => dfs ts n t.toNat st := by funext st t; exact dfs_congr h n _ st
    show (bif st.1.testBit b then st else _) = (bif st.1.testBit b then st else _)
    rw [h b]
    simp only [this]
theorem edgesTo_ren (h : Rnm r rN) (ts : List Tm) : ∀ k, edgesTo (ts.map (renT r)) k = edgesTo ts k
  | 0 => by rw [edgesTo_zero, edgesTo_zero]
  | k + 1 => by
    cases ht : ts[k]? with
    | none =>
      have hl : ts.length ≤ k := by simpa using ht
      have e : ∀ us : List Tm, us.length ≤ k → edgesTo us (k + 1) = edgesTo us k := fun us hu => by
        unfold edgesTo; rw [List.take_of_length_le (by omega), List.take_of_length_le hu]
      rw [e _ (by simpa using hl), e _ hl, edgesTo_ren h ts k]
    | some t =>
      rw [edgesTo_succ ht, edgesTo_succ (t := renT r t) (by rw [List.getElem?_map, ht]; rfl), edgesTo_ren h ts k, toL_ren h]
theorem orderF_ren (h : Rnm r rN) (ts : List Tm) : orderF (ts.map (renT r)) = orderF ts := by
  have hc : closed (ts.map (renT r)) = closed ts := by
    unfold closed edges
    rw [List.length_map, edgesTo_ren h]
  unfold orderF
  rw [hc, List.length_map, dfs_congr (toAt_ren h ts)]
theorem longF_ren (f : RFun) : longF (renF r f) = longF f := by
  unfold longF renF
  simp only [List.length_map, List.any_map]
  congr 1
  apply congrArg
  funext b
  simp [Function.comp, renB]
theorem nodup_ren (h : Rnm r rN) {l : List Int} : (l.map r).Nodup ↔ l.Nodup := by
  unfold List.Nodup
  rw [List.pairwise_map]
  exact ⟨fun hn => hn.imp fun hne e => hne (by rw [e]), fun hn => hn.imp fun hne e => hne (h.inj _ _ e)⟩
theorem wholeF_ren (h : Rnm r rN) (f : RFun) : wholeF (renF r f) = wholeF f := by
  unfold wholeF renF
  simp only [List.all_map]
  have e1 : decide (f.params.map r).Nodup = decide f.params.Nodup := by rw [decide_eq_decide]; exact nodup_ren h
  have e2 : (varB ∘ r) = varB := by funext n; exact h.var n
  have e3 : (wholeB ∘ renB r) = wholeB := by
    funext b
    simp only [Function.comp, wholeB, renB, isTerm_ren h, List.all_map]
    congr 1
    apply congrArg
    funext i
    exact isIns_ren h i
  rw [e1, e2, e3]
theorem blk_ren {f : RFun} {b : Nat} {x : RBlk} (h : f.blocks[b]? = some x) : (renF r f).blocks[b]? = some (renB r x) := by
  unfold renF
  rw [List.getElem?_map, h]; rfl
theorem blk_unren {f : RFun} {b : Nat} {x : RBlk} (h : (renF r f).blocks[b]? = some x) : ∃ y, f.blocks[b]? = some y ∧ x = renB r y := by
  unfold renF at h
  rw [List.getElem?_map] at h
  cases hb : f.blocks[b]? with
  | none => rw [hb] at h; cases h
  | some y => rw [hb] at h; exact ⟨y, rfl, (Option.some.inj h).symm⟩
theorem Rnm.toNat (h : Rnm r rN) {n : Int} (hn : 0 ≤ n) : (r n).toNat = rN n.toNat := by
  have := h.nat n.toNat
  rw [Int.toNat_of_nonneg hn] at this
  rw [this]; simp
theorem Rnm.injN (h : Rnm r rN) {a b : Nat} (e : rN a = rN b) : a = b := by
  have h1 := h.nat a
  have h2 := h.nat b
  have : ((a : Nat) : Int) = b := h.inj _ _ (by rw [h1, h2, e])
  omega
theorem Bare_ren (h : Rnm r rN) {f : RFun} {v b : Nat} (hp : ∀ p ∈ f.params, 0 ≤ p) : Bare (renF r f) (rN v) b ↔ Bare f v b := by
  have hd : ∀ i : RIns, (defI (renI r i)).toNat = rN v ↔ (defI i).toNat = v := fun i => by
    rw [defI_ren h, h.toNat (defI_range i).1]
    exact ⟨h.injN, fun e => by rw [e]⟩
  constructor
  · intro hb
    induction hb with
    | zero hz =>
      refine .zero fun p hpm e => hz (r p) (List.mem_map_of_mem hpm) ?_
      rw [h.toNat (hp p hpm), e]
    | step _ ha hx ht ih =>
      obtain ⟨y, hy, rfl⟩ := blk_unren ha
      refine .step ih hy (fun i hi e => hx (renI r i) (List.mem_map_of_mem hi) ((hd i).2 e)) ?_
      rw [show (renB r y).term = renT r y.term from rfl, toL_ren h] at ht
      exact ht
  · intro hb
    induction hb with
    | zero hz =>
      refine .zero fun p hpm e => ?_
      obtain ⟨q, hq, rfl⟩ := List.mem_map.1 hpm
      rw [h.toNat (hp q hq)] at e
      exact hz q hq (h.injN e)
    | step _ ha hx ht ih =>
      refine .step ih (blk_ren ha) (fun i hi e => ?_) (by rw [show (renB r _).term = renT r _ from rfl, toL_ren h]; exact ht)
      obtain ⟨j, hj, rfl⟩ := List.mem_map.1 hi
      exact hx j hj ((hd j).1 e)
theorem valuedF_ren (h : Rnm r rN) {f : RFun} (hp : ∀ p ∈ f.params, 0 ≤ p) : valuedF (renF r f) = valuedF f := by
  rw [Bool.eq_iff_iff, valuedF_iff, valuedF_iff]
  constructor
  · intro hv b x v hx he hb
    have hr := exposed_range he
    refine hv b (renB r x) (r v) (blk_ren hx) (by show exposed (x.ins.map (renI r)) (renT r x.term) (r v) = true; rw [exposed_ren h]; exact he) ?_
    rw [h.toNat (by omega)]
    exact (Bare_ren h hp).2 hb
  · intro hv b x v hx he hb
    obtain ⟨y, hy, rfl⟩ := blk_unren hx
    obtain ⟨u, rfl⟩ := h.onto v
    have he2 : exposed y.ins y.term u = true := by rw [← exposed_ren h]; exact he
    have hr := exposed_range he2
    rw [h.toNat (by omega)] at hb
    exact hv b y u hy he2 ((Bare_ren h hp).1 hb)
theorem rightF_ren (h : Rnm r rN) (f : RFun) : rightF (renF r f) = rightF f := by
  unfold rightF
  rw [longF_ren, wholeF_ren h, terms_ren, okEs_ren h, orderF_ren h, show (renF r f).blocks.length = f.blocks.length by simp [renF]]
  cases hw : wholeF f with
  | false => rfl
  | true =>
    have hp : ∀ p ∈ f.params, 0 ≤ p := fun p hp => by have := whole_params hw p hp; omega
    rw [valuedF_ren h hp]
theorem noteI_ren (h : Rnm r rN) (i : RIns) : noteI (renI r i) = (noteI i).map r := by
  unfold noteI
  rw [readsL_ren h, defI_ren h]; simp
theorem noteF_ren (h : Rnm r rN) (f : RFun) : noteF (renF r f) = (noteF f).map r := by
  unfold noteF renF
  rw [List.map_append]
  congr 1
  rw [List.flatMap_map, List.map_flatMap]
  congr 1
  funext b
  unfold noteB renB
  rw [List.map_append, needsL_ren h, List.flatMap_map, List.map_flatMap]
  congr 2
  funext i
  exact noteI_ren h i
theorem okF_ren (h : Rnm r rN) (f : RFun) : okF (renF r f) = okF f := by
  unfold okF
  rw [longF_ren, wholeF_ren h]
theorem sizeF_ren (h : Rnm r rN) (f : RFun) : sizeF (renF r f) = sizeF f := by
  unfold sizeF
  rw [okF_ren h]
  congr 2
  unfold renF
  rw [List.map_map]
  apply List.map_congr_left
  intro b _
  simp [Function.comp, renB]
theorem noteF_pos {f : RFun} (h : okF f = true) : ∀ n ∈ noteF f, 0 ≤ n := fun n hn => by
  unfold noteF at hn
  rcases List.mem_append.1 hn with hn | hn
  · have := whole_params (ok_parts h).2 n hn; omega
  · obtain ⟨b, _, hb⟩ := List.mem_flatMap.1 hn
    unfold noteB at hb
    rcases List.mem_append.1 hb with hb | hb
    · obtain ⟨i, _, hi⟩ := List.mem_flatMap.1 hb
      exact (noteI_range hi).1
    · have := needsL_mem hb; omega
theorem varsF_mem_ren (h : Rnm r rN) {f : RFun} {v : Nat} (hv : v ∈ varsF f) : rN v ∈ varsF (renF r f) := by
  obtain ⟨h1, h2, n, hn, e⟩ := mem_varsF.1 hv
  have hn0 := noteF_pos h1 n hn
  have hvar : varB (r (v : Int)) = true := by rw [h.var, varB_iff]; omega
  rw [h.nat, varB_iff] at hvar
  refine mem_varsF.2 ⟨by rw [okF_ren h]; exact h1, by omega, r n, by rw [noteF_ren h]; exact List.mem_map_of_mem hn, ?_⟩
  rw [h.toNat hn0, e]
theorem varsF_nodup (f : RFun) : (varsF f).Nodup := by
  unfold varsF
  split
  · unfold varsTo
    exact List.Pairwise.filter _ List.nodup_range'
  · exact List.nodup_nil
theorem varsF_len_ren (h : Rnm r rN) (f : RFun) : (varsF (renF r f)).length = (varsF f).length := by
  apply Nat.le_antisymm
  · have key : ∀ v ∈ varsF (renF r f), v ∈ (varsF f).map rN := fun v hv => by
      obtain ⟨h1, h2, n, hn, e⟩ := mem_varsF.1 hv
      rw [okF_ren h] at h1
      rw [noteF_ren h] at hn
      obtain ⟨m, hm, rfl⟩ := List.mem_map.1 hn
      have hm0 := noteF_pos h1 m hm
      rw [h.toNat hm0] at e
      refine List.mem_map.2 ⟨m.toNat, mem_varsF.2 ⟨h1, ?_, m, hm, rfl⟩, e⟩
      have : varB (r (m.toNat : Int)) = true := by rw [h.nat, e, varB_iff]; omega
      rw [h.var, varB_iff] at this
      omega
    have := nodup_le _ _ (varsF_nodup _) key
    simpa using this
  · have hn : ((varsF f).map rN).Nodup := by
      have := varsF_nodup f
      unfold List.Nodup at this ⊢
      rw [List.pairwise_map]
      exact this.imp fun hne e => hne (h.injN e)
    have := nodup_le _ (varsF (renF r f)) hn fun v hv => by
      obtain ⟨u, hu, rfl⟩ := List.mem_map.1 hv
      exact varsF_mem_ren h hu
    simpa using this
end
/-- The renaming of the law. -/
def shiftI (k : Nat) (v : Int) : Int := if v < 1 ∨ 200 < v then v else (v - 1 + k) % 200 + 1
def shiftN (k v : Nat) : Nat := if v < 1 ∨ 200 < v then v else (v - 1 + k) % 200 + 1
theorem shift_rnm {k : Nat} (hk : k < 200) : Rnm (shiftI k) (shiftN k) := by
  have hv : ∀ n, varB (shiftI k n) = varB n := fun n => by
    unfold shiftI
    split
    · rfl
    · rw [Bool.eq_iff_iff, varB_iff, varB_iff]; omega
  refine ⟨hv, fun n hn => ?_, fun a b e => ?_, fun n => ?_, fun n => ?_⟩
  · unfold shiftI
    rw [if_pos]
    rw [← Bool.not_eq_true, varB_iff] at hn
    omega
  · unfold shiftI at e
    split at e <;> split at e <;> omega
  · by_cases h : n < 1 ∨ 200 < n
    · exact ⟨n, by unfold shiftI; rw [if_pos h]⟩
    · refine ⟨(n - 1 + (200 - k)) % 200 + 1, ?_⟩
      unfold shiftI
      rw [if_neg (by omega)]
      omega
  · unfold shiftI shiftN
    by_cases h : n < 1 ∨ 200 < n
    · rw [if_pos h, if_pos (by omega)]
    · rw [if_neg h, if_neg (by omega)]
      omega
end Go.Proofs.Ytcojedoejpcolaa

/- A function in memory of its own: what is held of it; copies, walked. -/
namespace Go.Proofs.Ytcojedoejpcolaa
set_option linter.unusedVariables false
open Go Go.RowKit
set_option maxRecDepth 100000

def insRes (i : RIns) : Res := row (.slice i.aA i.args.length i.aC) 3 1 i.args.length (ints i.args)
def insRow (b : RBlk) : Res := row (.slice b.iA b.ins.length b.iC) 25 8 b.ins.length (b.ins.flatMap RIns.cells)
def blkRes (b : RBlk) : List Res := insRow b :: b.ins.map insRes
def prmRow (f : RFun) : Res := row (.slice f.pA f.params.length f.pC) 3 1 f.params.length (ints f.params)
def blkRow (f : RFun) : Res := row (.slice f.bA f.blocks.length f.bC) 50 5 f.blocks.length (f.blocks.flatMap RBlk.cells)
def funRes (f : RFun) : List Res := prmRow f :: blkRow f :: f.blocks.flatMap blkRes
theorem mem_blkRes {f : RFun} {b : RBlk} {r : Res} (hb : b ∈ f.blocks) (hr : r ∈ blkRes b) : r ∈ funRes f := by
  unfold funRes
  exact List.mem_cons_of_mem _ (List.mem_cons_of_mem _ (List.mem_flatMap.2 ⟨b, hb, hr⟩))
section
variable {w0 w : World} {B : Nat} {M L : List Res} {g : RFun}
theorem FunAt.own (hh : Hp w0 B (M ++ L) w) (hs : ∀ r ∈ funRes g, r ∈ L) : FunAt w w.heap.size g := by
  have key : ∀ {A : Option Addr} {n c e s : Nat} {xs : List Value}, row (.slice A n c) e s n xs ∈ funRes g → Reads w w.heap.size s A n xs := fun hm => by
    obtain ⟨i, hi⟩ := List.mem_iff_getElem?.1 (hs _ hm)
    exact Reads.row hh hi
  exact ⟨key (List.mem_cons_self ..), key (List.mem_cons_of_mem _ (List.mem_cons_self ..)), fun b hb => key (mem_blkRes hb (List.mem_cons_self ..)), fun b hb i hi => key (mem_blkRes hb (List.mem_cons_of_mem _ (List.mem_map_of_mem hi)))⟩
theorem cap_row {A : Option Addr} {n c e s : Nat} {xs : List Value} (h : w.ownsRow 0 e s (.slice A n c) n xs) : n ≤ c := by
  rcases h.2 with ⟨hv, h0⟩ | ⟨g, cap, cur, hv, _, _, hn, _⟩
  · omega
  · injection hv with _ _ hc
    omega
/-- Its numbers are numbers, it is not endless. -/
structure FitC (f : RFun) : Prop where
  params : ∀ n ∈ f.params, -9223372036854775808 ≤ n ∧ n ≤ 9223372036854775807
  plen : f.params.length < 2 ^ 50
  blen : f.blocks.length < 2 ^ 50
  ilen : ∀ b ∈ f.blocks, b.ins.length < 2 ^ 50
  term : ∀ b ∈ f.blocks, ∀ n ∈ [b.term.kind, b.term.a, b.term.t0, b.term.t1], -9223372036854775808 ≤ n ∧ n ≤ 9223372036854775807
  insr : ∀ b ∈ f.blocks, ∀ i ∈ b.ins, ∀ n ∈ [i.op, i.dst, i.a, i.b, i.imm, i.callee, i.many], -9223372036854775808 ≤ n ∧ n ≤ 9223372036854775807
  alen : ∀ b ∈ f.blocks, ∀ i ∈ b.ins, i.args.length < 2 ^ 50
  argr : ∀ b ∈ f.blocks, ∀ i ∈ b.ins, ∀ n ∈ i.args, -9223372036854775808 ≤ n ∧ n ≤ 9223372036854775807
theorem Fit.c {f : RFun} (h : Fit f) : FitC f := ⟨h.params, h.plen, h.blen, h.ilen, h.term, h.insr, h.alen, h.argr⟩
theorem FitC.fit (h : FitC g) (hh : Hp w0 B (M ++ L) w) (hs : ∀ r ∈ funRes g, r ∈ L) : Fit g := by
  have key : ∀ {A : Option Addr} {n c e s : Nat} {xs : List Value}, row (.slice A n c) e s n xs ∈ funRes g → n ≤ c := fun hm => cap_row (hh.has _ (List.mem_append_right _ (hs _ hm)))
  exact ⟨h.params, h.plen, h.blen, key (List.mem_cons_self ..), key (List.mem_cons_of_mem _ (List.mem_cons_self ..)), h.ilen, fun b hb => key (mem_blkRes hb (List.mem_cons_self ..)), h.term, h.insr, h.alen, fun b hb i hi => key (mem_blkRes hb (List.mem_cons_of_mem _ (List.mem_map_of_mem hi))), h.argr⟩
theorem FitC.bare {f : RFun} (h : FitC f) : FitC f.bare := by
  have hb : ∀ b ∈ f.bare.blocks, ∃ y ∈ f.blocks, b = y.bare := fun b hb => by
    obtain ⟨y, hy, e⟩ := List.mem_map.1 hb
    exact ⟨y, hy, e.symm⟩
  have hi : ∀ (y : RBlk), ∀ i ∈ y.bare.ins, ∃ j ∈ y.ins, i = j.bare := fun y i hi => by
    obtain ⟨j, hj, e⟩ := List.mem_map.1 hi
    exact ⟨j, hj, e.symm⟩
  refine ⟨h.params, h.plen, by simpa [RFun.bare] using h.blen, fun b hb' => ?_, fun b hb' => ?_, fun b hb' i hi' => ?_, fun b hb' i hi' => ?_, fun b hb' i hi' => ?_⟩
  · obtain ⟨y, hy, rfl⟩ := hb b hb'
    simpa [RBlk.bare] using h.ilen y hy
  · obtain ⟨y, hy, rfl⟩ := hb b hb'
    exact h.term y hy
  all_goals
    obtain ⟨y, hy, rfl⟩ := hb b hb'
    obtain ⟨j, hj, rfl⟩ := hi y i hi'
    first | exact h.insr y hy j hj | exact h.alen y hy j hj | exact h.argr y hy j hj
theorem FitC.unbare {f : RFun} (h : FitC f.bare) : FitC f := by
  have hb : ∀ b ∈ f.blocks, b.bare ∈ f.bare.blocks := fun b hb => List.mem_map_of_mem hb
  have hi : ∀ (y : RBlk), ∀ i ∈ y.ins, i.bare ∈ y.bare.ins := fun y i hi => List.mem_map_of_mem hi
  exact ⟨h.params, h.plen, by simpa [RFun.bare] using h.blen, fun b hb' => by simpa [RBlk.bare] using h.ilen _ (hb b hb'), fun b hb' => h.term b.bare (hb b hb'), fun b hb' i hi' => h.insr b.bare (hb b hb') i.bare (hi b i hi'), fun b hb' i hi' => h.alen b.bare (hb b hb') i.bare (hi b i hi'), fun b hb' i hi' => h.argr b.bare (hb b hb') i.bare (hi b i hi')⟩
theorem FitC.same {f : RFun} (h : FitC f) (e : g.bare = f.bare) : FitC g := FitC.unbare (e ▸ h.bare)
end
theorem one_flatI (l : List RIns) : ∀ u ∈ l.flatMap RIns.cells, u.oneCell' = true := fun u hu => by
  obtain ⟨i, _, h⟩ := List.mem_flatMap.1 hu
  exact i.one u h
theorem one_flatB (l : List RBlk) : ∀ u ∈ l.flatMap RBlk.cells, u.oneCell' = true := fun u hu => by
  obtain ⟨i, _, h⟩ := List.mem_flatMap.1 hu
  exact i.one u h
theorem one_ints (l : List Int) : ∀ u ∈ ints l, u.oneCell' = true := fun u hu => by
  obtain ⟨n, _, rfl⟩ := List.mem_map.1 hu
  rfl
/-- The place of a row in what is held; written, it is the row of another. -/
theorem flat_set {α β : Type} {F : α → List β} {x x' : α} {q : Nat} {A A' : β} (hA : (F x)[q]? = some A) (hx' : F x' = (F x).set q A') : ∀ {l : List α} {b : Nat}, l[b]? = some x → ∃ j, (l.flatMap F)[j]? = some A ∧ (l.flatMap F).set j A' = (l.set b x').flatMap F
  | [], b, h => by simp at h
  | y :: l, 0, h => by
    have e : y = x := by simpa using h
    subst e
    have hq := (List.getElem?_eq_some_iff.1 hA).1
    refine ⟨q, ?_, ?_⟩
    · rw [List.flatMap_cons, List.getElem?_append_left hq]; exact hA
    · rw [List.flatMap_cons, List.set_append_left _ _ hq, List.set_cons_zero, List.flatMap_cons, hx']
  | y :: l, b + 1, h => by
    obtain ⟨j, h1, h2⟩ := flat_set hA hx' (l := l) (b := b) (by simpa using h)
    refine ⟨(F y).length + j, ?_, ?_⟩
    · rw [List.flatMap_cons, List.getElem?_append_right (by omega)]
      rw [show (F y).length + j - (F y).length = j by omega]; exact h1
    · rw [List.flatMap_cons, List.set_append_right _ _ (by omega), show (F y).length + j - (F y).length = j by omega, h2, List.set_cons_succ, List.flatMap_cons]
/-- A slice's literal of one value of several cells. -/
theorem bs1 {P : Program} {w0 : World} {B : Nat} {σ : Env} {L : List Res} {d : Option Nat} {ty T : TypeId} {pos : String} {af : Array Edge} {gd : Option (Nat × Bool)} {e s b : Nat} {parts : List (Nat × Operand)} {zv v : Value} {cs : List Value} (hT : SlT P T e s b) (hz : ZrT P e zv) (hv : v.cells = cs.toArray) (hs : cs.length = s) (hb : s ≤ 16777216 := by decide) (hp : parts.map (fun p => (p.1, ev σ p.2)) = [(0, v)] := by exact rfl) :
    Sp P w0 B ⟨d, .buildSlice T 1 parts.toArray, ty, pos, af, gd⟩ σ L (NewS e s 1 1 cs L) := by
  have hvs : ∀ u ∈ [v], u.cells.size = s := by
    intro u hu
    simp only [List.mem_singleton] at hu
    rw [hu, hv]; simpa using hs
  have h := bsn (d := d) (ty := ty) (pos := pos) (af := af) (gd := gd) (P := P) (w0 := w0) (B := B) (L := L) [v] hT hz hvs rfl (by simp only [List.length_singleton]; omega) (by simp [maxLen]) hp
  have e1 : [v].flatMap (fun v => v.cells.toList) = cs := by simp [hv]
  rwa [e1] at h
theorem flat_set_at {α β : Type} {F : α → List β} {s : Nat} (hs : ∀ x, (F x).length = s) {c : Nat} {A' : β} {x x' : α} (hc : c < s) (hx' : F x' = (F x).set c A') : ∀ {l : List α} {k : Nat}, l[k]? = some x → (l.flatMap F).set (k * s + c) A' = (l.set k x').flatMap F
  | [], k, h => by simp at h
  | y :: l, 0, h => by
    have e : y = x := by simpa using h
    subst e
    rw [List.flatMap_cons, Nat.zero_mul, Nat.zero_add, List.set_append_left _ _ (by rw [hs]; exact hc), List.set_cons_zero, List.flatMap_cons, hx']
  | y :: l, k + 1, h => by
    have ih := flat_set_at hs hc hx' (l := l) (k := k) (by simpa using h)
    rw [List.flatMap_cons, List.set_append_right _ _ (by rw [hs, Nat.add_mul]; omega), hs, show (k + 1) * s + c - s = k * s + c by rw [Nat.add_mul]; omega, ih, List.set_cons_succ, List.flatMap_cons]
theorem flat_set_same {α β : Type} {F : α → List β} {y y' : α} (hF : F y' = F y) : ∀ {l : List α} {b : Nat}, l[b]? = some y → (l.set b y').flatMap F = l.flatMap F
  | [], b, h => by simp at h
  | z :: l, 0, h => by
    have e : z = y := by simpa using h
    subst e
    rw [List.set_cons_zero, List.flatMap_cons, List.flatMap_cons, hF]
  | z :: l, b + 1, h => by
    rw [List.set_cons_succ, List.flatMap_cons, List.flatMap_cons, flat_set_same hF (l := l) (b := b) (by simpa using h)]
def RFun.with (g : RFun) (bs : List RBlk) : RFun := { g with blocks := bs }
/-- Its instructions' row is written. -/
theorem own_ins {g : RFun} {b : Nat} {y : RBlk} (hb : g.blocks[b]? = some y) : ∃ j, (funRes g)[j]? = some (insRow y) ∧ ∀ l' : List RIns, l'.length = y.ins.length → l'.map insRes = y.ins.map insRes →
    (funRes g).set j (row (.slice y.iA y.ins.length y.iC) 25 8 y.ins.length (l'.flatMap RIns.cells)) = funRes (g.with (g.blocks.set b { y with ins := l' })) := by
  have key : ∀ l' : List RIns, l'.length = y.ins.length → l'.map insRes = y.ins.map insRes → ∃ j, (g.blocks.flatMap blkRes)[j]? = some (insRow y) ∧ (g.blocks.flatMap blkRes).set j (row (.slice y.iA y.ins.length y.iC) 25 8 y.ins.length (l'.flatMap RIns.cells)) = (g.blocks.set b { y with ins := l' }).flatMap blkRes := fun l' h1 h2 => by
    refine flat_set (q := 0) (x := y) (x' := { y with ins := l' }) rfl ?_ hb
    unfold blkRes insRow
    simp only [h1, h2, List.set_cons_zero]
  have hj : ∃ j, (g.blocks.flatMap blkRes)[j]? = some (insRow y) ∧ ∀ A', (g.blocks.flatMap blkRes).set j A' = (g.blocks.take b).flatMap blkRes ++ (A' :: y.ins.map insRes) ++ (g.blocks.drop (b + 1)).flatMap blkRes := by
    have hs := split_at hb
    have e : g.blocks.flatMap blkRes = (g.blocks.take b).flatMap blkRes ++ (insRow y :: y.ins.map insRes) ++ (g.blocks.drop (b + 1)).flatMap blkRes := by
      rw (occs := .pos [1]) [hs]
      rw [List.flatMap_append, List.flatMap_cons, ← List.append_assoc]
      rfl
    refine ⟨((g.blocks.take b).flatMap blkRes).length, ?_, fun A' => ?_⟩
    · rw [e, List.append_assoc, List.getElem?_append_right (Nat.le_refl _)]; simp
    · rw [e, List.append_assoc, List.set_append_right _ _ (Nat.le_refl _)]; simp
  obtain ⟨j, h1, h2⟩ := hj
  refine ⟨j + 2, h1, fun l' h3 h4 => ?_⟩
  show prmRow g :: blkRow g :: (g.blocks.flatMap blkRes).set j _ = _
  have hset : g.blocks.set b { y with ins := l' } = g.blocks.take b ++ { y with ins := l' } :: g.blocks.drop (b + 1) := set_split hb
  have hcells : (g.blocks.set b { y with ins := l' }).flatMap RBlk.cells = g.blocks.flatMap RBlk.cells := flat_set_same (by simp [RBlk.cells, h3]) hb
  unfold funRes
  congr 1
  congr 1
  · unfold blkRow RFun.with
    simp only [hcells, List.length_set]
  · rw [h2]
    show _ = (g.blocks.set b { y with ins := l' }).flatMap blkRes
    rw [hset, List.flatMap_append, List.flatMap_cons, ← List.append_assoc]
    congr 1
    congr 1
    unfold blkRes insRow
    simp only [h3, h4]
/-- An instruction's list is written. -/
theorem own_args {g : RFun} {b q : Nat} {y : RBlk} {i : RIns} (hb : g.blocks[b]? = some y) (hi : y.ins[q]? = some i) : ∃ j, (funRes g)[j]? = some (insRes i) ∧ ∀ ls : List Int, ls.length = i.args.length →
    (funRes g).set j (row (.slice i.aA i.args.length i.aC) 3 1 i.args.length (ints ls)) = funRes (g.with (g.blocks.set b { y with ins := y.ins.set q { i with args := ls } })) := by
  have e : g.blocks.flatMap blkRes = (g.blocks.take b).flatMap blkRes ++ (insRow y :: (y.ins.take q).map insRes) ++ (insRes i :: ((y.ins.drop (q + 1)).map insRes ++ (g.blocks.drop (b + 1)).flatMap blkRes)) := by
    have hs := split_at hb
    have hi2 := split_at hi
    have hbe : blkRes y = insRow y :: ((y.ins.take q).map insRes ++ insRes i :: (y.ins.drop (q + 1)).map insRes) := by
      unfold blkRes
      congr 1
      rw [← List.map_cons, ← List.map_append, ← hi2]
    rw (occs := .pos [1]) [hs]
    rw [List.flatMap_append, List.flatMap_cons, hbe]
    simp
  refine ⟨((g.blocks.take b).flatMap blkRes ++ (insRow y :: (y.ins.take q).map insRes)).length + 2, ?_, fun ls h3 => ?_⟩
  · refine Eq.trans (b := (g.blocks.flatMap blkRes)[((g.blocks.take b).flatMap blkRes ++ (insRow y :: (y.ins.take q).map insRes)).length]?) rfl ?_
    rw [e, List.getElem?_append_right (Nat.le_refl _)]; simp
  · show prmRow g :: blkRow g :: (g.blocks.flatMap blkRes).set _ _ = _
    have hc2 : (y.ins.set q { i with args := ls }).flatMap RIns.cells = y.ins.flatMap RIns.cells := flat_set_same (by simp [RIns.cells, h3]) hi
    have hcells : (g.blocks.set b { y with ins := y.ins.set q { i with args := ls } }).flatMap RBlk.cells = g.blocks.flatMap RBlk.cells := flat_set_same (by simp [RBlk.cells]) hb
    unfold funRes
    congr 1
    congr 1
    · unfold blkRow RFun.with
      simp only [hcells, List.length_set]
    · rw [e, List.set_append_right _ _ (Nat.le_refl _)]
      show _ = (g.blocks.set b { y with ins := y.ins.set q { i with args := ls } }).flatMap blkRes
      rw [set_split hb, List.flatMap_append, List.flatMap_cons]
      have hb2 : blkRes { y with ins := y.ins.set q { i with args := ls } } = insRow y :: ((y.ins.take q).map insRes ++ (row (.slice i.aA i.args.length i.aC) 3 1 i.args.length (ints ls) :: (y.ins.drop (q + 1)).map insRes)) := by
        unfold blkRes
        congr 1
        · unfold insRow
          simp only [List.length_set, hc2]
        · show (y.ins.set q { i with args := ls }).map insRes = _
          rw [set_split hi, List.map_append, List.map_cons]
          congr 2
          unfold insRes
          simp only [h3]
      rw [hb2]
      simp
/-- The row of blocks is written. -/
theorem own_blk {g : RFun} {b : Nat} {y y' : RBlk} (hb : g.blocks[b]? = some y) (hr : blkRes y' = blkRes y) : (funRes g).set 1 (row (.slice g.bA g.blocks.length g.bC) 50 5 g.blocks.length ((g.blocks.set b y').flatMap RBlk.cells)) = funRes (g.with (g.blocks.set b y')) := by
  have h2 : (g.blocks.set b y').flatMap blkRes = g.blocks.flatMap blkRes := flat_set_same hr hb
  unfold funRes
  show prmRow g :: _ :: g.blocks.flatMap blkRes = prmRow g :: blkRow (g.with (g.blocks.set b y')) :: (g.blocks.set b y').flatMap blkRes
  rw [h2]
  unfold blkRow RFun.with
  simp
/-- The k first ones have turned. -/
def turnTo {α : Type} (r : α → α) (l : List α) (k : Nat) : List α := (l.take k).map r ++ l.drop k
theorem turnTo_zero {α : Type} (r : α → α) (l : List α) : turnTo r l 0 = l := by simp [turnTo]
theorem turnTo_all {α : Type} (r : α → α) (l : List α) : turnTo r l l.length = l.map r := by simp [turnTo]
theorem turnTo_len {α : Type} (r : α → α) (l : List α) (k : Nat) : (turnTo r l k).length = l.length := by simp [turnTo]; omega
theorem turnTo_get {α : Type} {r : α → α} {l : List α} {k : Nat} {x : α} (h : l[k]? = some x) : (turnTo r l k)[k]? = some x := by
  have hk := (List.getElem?_eq_some_iff.1 h).1
  unfold turnTo
  have hl : ((l.take k).map r).length = k := by simp; omega
  rw [List.getElem?_append_right (by omega), hl, List.getElem?_drop]
  simpa using h
theorem turnTo_set {α : Type} {r : α → α} {l : List α} {k : Nat} {x : α} (h : l[k]? = some x) : (turnTo r l k).set k (r x) = turnTo r l (k + 1) := by
  have hk := (List.getElem?_eq_some_iff.1 h).1
  unfold turnTo
  have hl : ((l.take k).map r).length = k := by simp; omega
  rw [List.set_append_right _ _ (by omega), hl, Nat.sub_self, List.drop_eq_getElem_cons hk, List.set_cons_zero, take_snoc_ h, List.map_append]
  simp
section
theorem kit_CopyInts_ct {w : World} {A : Option Addr} {c : Nat} {l : List Int} (hl : Reads w w.heap.size 1 A l.length (ints l)) (hlen : l.length < 2 ^ 44) : Ct Try.prog 90 #[.slice A l.length c] w (NewL 3 1 l.length (ints l)) := by
  refine Ct.mk Try.func90 rfl rfl ?_
  refine Cd.nr 3 1 ?_
  refine Cd.seq ?_
  refine Cd.region ?_
  refine Ol.p ass ?_
  refine Ol.nil ?_
  refine Cd.seq ?_
  refine Cd.region ?_
  refine Ol.p ass ?_
  refine Ol.nil ?_
  refine Cd.seq ?_
  refine Cd.region ?_
  refine Ol.p mvs ?_
  refine Ol.p mvs ?_
  refine Ol.x (apn (i := 0) (n := 0) (xs := []) (m := l.length) sl_L_int zr_int rfl (by decide) rfl (Src.slc hl) (one_ints l) (by unfold maxLen; omega) (by omega)) ?_
  rintro _ _ ⟨A', c', rfl, rfl⟩
  refine Ol.p ass ?_
  refine Ol.nil ?_
  rw [Nat.zero_add, List.nil_append]
  exact Cd.ret ⟨_, ret1 rfl rfl, _, .all, A', c', rfl, rfl⟩
end
section
def RIns.at_ (i : RIns) (A : Option Addr) (c : Nat) : RIns := { i with aA := A, aC := c }
theorem RIns.at_bare (i : RIns) (A : Option Addr) (c : Nat) : (i.at_ A c).bare = i.bare := rfl
theorem kit_CopyIns_ct {w : World} {i : RIns} (hl : Reads w w.heap.size 1 i.aA i.args.length (ints i.args)) (hlen : i.args.length < 2 ^ 44) : Ct Try.prog 176 #[i.val] w (fun v R => ∃ A c, v = (i.at_ A c).val ∧ R = [insRes (i.at_ A c)]) := by
  refine Ct.mk Try.func176 rfl rfl ?_
  refine Cd.seq ?_
  refine Cd.region ?_
  refine Ol.x bxg ?_
  rintro _ _ ⟨g1, rfl, rfl⟩
  refine Ol.x (alc zr_api_Ins) ?_
  rintro _ _ ⟨g2, rfl, rfl⟩
  refine Ol.nil ?_
  refine Cd.seq ?_
  refine Cd.region ?_
  refine Ol.p (fdl fd_api_Ins_6) ?_
  refine Ol.p (ld (v := .slice i.aA i.args.length i.aC) one_L_int (Rd.blk (i := 1) rfl rfl)) ?_
  refine Ol.x (sp_call en_kit_CopyInts (fun M w' hh => kit_CopyInts_ct (l := i.args) (hl.now hh) hlen)) ?_
  rintro _ _ ⟨_, rfl, A', c', rfl, rfl⟩
  refine Ol.p (fdl fd_api_Ins_6) ?_
  refine Ol.s (sto (v := .slice A' i.args.length c') (i := 2) (k := 0 + 6) (.inr sz_L_int) rfl rfl rfl (by simp [RIns.cells]) rfl) ?_
  refine Ol.nil ?_
  refine Cd.seq ?_
  refine Cd.region ?_
  refine Ol.p (ldw (cs := (i.at_ A' c').cells.toArray) ag_api_Ins (i := 2) rfl rfl) ?_
  refine Ol.s (stw (vs := (i.at_ A' c').cells.toArray) sz_api_Ins rfl (i.at_ A' c').one (i := 1) rfl rfl) ?_
  refine Ol.nil ?_
  exact Cd.ret ⟨_, retc rfl ag_api_Ins rfl (i := 1) rfl rfl, _, .sub (.cons_cons _ (.cons _ (.cons _ .slnil))), A', c', rfl, rfl⟩
end
section
/-- A row of instructions, copied. -/
def NewIl (l : List RIns) : Value → List Res → Prop := fun v R => ∃ (l' : List RIns) (A : Option Addr) (c : Nat) (X : List Res), l'.map RIns.bare = l.map RIns.bare ∧ v = .slice A l'.length c ∧ X.Perm (l'.map insRes) ∧ R = row (.slice A l'.length c) 25 8 l'.length (l'.flatMap RIns.cells) :: X
set_option maxHeartbeats 2000000 in
theorem kit_CopyRow_ct {w : World} {A : Option Addr} {c : Nat} {l : List RIns} (hl : Reads w w.heap.size 8 A l.length (l.flatMap RIns.cells)) (ha : ∀ i ∈ l, Reads w w.heap.size 1 i.aA i.args.length (ints i.args)) (hlen : l.length < 2 ^ 36) (hal : ∀ i ∈ l, i.args.length < 2 ^ 44) : Ct Try.prog 170 #[.slice A l.length c] w (NewIl l) := by
  refine Ct.mk Try.func170 rfl rfl ?_
  refine Cd.nr 25 8 ?_
  refine Cd.seq ?_
  refine Cd.region ?_
  refine Ol.p ass ?_
  refine Ol.nil ?_
  refine Cd.seq ?_
  refine Cd.region ?_
  refine Ol.p ass ?_
  refine Ol.nil ?_
  refine Cd.seq ?_
  refine Cd.seq ?_
  refine Cd.region ?_
  refine Ol.p asi ?_
  refine Ol.nil ?_
  refine Cd.block ?_
  refine Cd.loop (fun m σ L => ∃ (k : Nat) (l' : List RIns) (A' : Option Addr) (c' : Nat) (X : List Res), m = l.length - k ∧ k ≤ l.length ∧ l'.map RIns.bare = (l.take k).map RIns.bare ∧ X.Perm (l'.map insRes) ∧ Has σ [(0, .slice A l.length c), (3, .slice A' l'.length c'), (4, .int .i64 k)] ∧ row (.slice A' l'.length c') 25 8 l'.length (l'.flatMap RIns.cells) :: X = L) (n := l.length) ⟨0, [], none, 0, [], rfl, Nat.zero_le _, rfl, .refl _, ⟨rfl, rfl, rfl, trivial⟩, rfl⟩ ?_
  rintro _ σ L ⟨k, l', A', c', X, rfl, hk, hbare, hX, hs, rfl⟩
  have hkl : l'.length = k := by
    have := congrArg List.length hbare
    simp at this; omega
  refine Cd.has hs ?_
  clear hs
  refine Cd.seq ?_
  refine Cd.seq ?_
  refine Cd.region ?_
  refine Ol.p mvi ?_
  refine Ol.p mvs ?_
  refine Ol.p (lens sl_L_api_Ins) ?_
  refine Ol.p lsi ?_
  refine Ol.nil ?_
  refine Cd.cond rfl (fun h => ?_) (fun h => ?_)
  · have hlt : k < l.length := by
      simp only [decide_eq_true_eq] at h; omega
    obtain ⟨i, hi⟩ : ∃ i, l[k]? = some i := ⟨_, List.getElem?_eq_getElem hlt⟩
    have him := List.mem_of_getElem? hi
    have hial := hal i him
    refine Cd.skip ?_
    refine Cd.seq ?_
    refine Cd.block ?_
    refine Cd.seq ?_
    refine Cd.region ?_
    refine Ol.p mvs ?_
    refine Ol.p mvi ?_
    refine Ol.p (ixn (ix := k) sl_L_api_Ins (Som.slc hl (by omega))) ?_
    refine Ol.p (lds (es := i.cells) ag_api_Ins hl i.len (fun j u hu => ins_cell hi hu)) ?_
    refine Ol.x (sp_call en_kit_CopyIns (fun M w' hh => kit_CopyIns_ct ((ha i him).now hh) hial)) ?_
    rintro _ _ ⟨_, rfl, Ai, ci, rfl, rfl⟩
    refine Ol.x (alc zr_api_Ins) ?_
    rintro _ _ ⟨g5, rfl, rfl⟩
    refine Ol.s (stw (vs := (i.at_ Ai ci).cells.toArray) sz_api_Ins rfl (i.at_ Ai ci).one (i := 0) rfl rfl) ?_
    refine Ol.nil ?_
    refine Cd.region ?_
    refine Ol.p mvs ?_
    refine Ol.p (ldw (cs := (i.at_ Ai ci).cells.toArray) ag_api_Ins (i := 0) rfl rfl) ?_
    refine Ol.x (bs1 (cs := (i.at_ Ai ci).cells) sl_L_api_Ins zr_api_Ins rfl rfl) ?_
    rintro _ _ ⟨g19, rfl, rfl⟩
    refine Ol.x (apn (i := 3) (m := 1) sl_L_api_Ins zr_api_Ins rfl (by decide) rfl (Src.row (i := 0) rfl rfl) (i.at_ Ai ci).one (by unfold maxLen; omega) (by omega)) ?_
    rintro _ _ ⟨A2, c2, rfl, rfl⟩
    refine Ol.p ass ?_
    refine Ol.keep (keep_count (L' := row (.slice A2 (l'.length + 1) c2) 25 8 (l'.length + 1) (l'.flatMap RIns.cells ++ (i.at_ Ai ci).cells) :: insRes (i.at_ Ai ci) :: X) [row (.slice (some ⟨g19, 0, none⟩) 1 1) 25 8 1 (i.at_ Ai ci).cells, blk g5 (.cells (i.at_ Ai ci).cells.toArray 25)] fun _ x => by simp only [List.set_cons_succ, List.set_cons_zero, List.count_append, List.count_cons, List.count_nil, List.cons_append, List.nil_append]; omega) ?_
    refine Ol.nil ?_
    refine Cd.region ?_
    refine Ol.p mvi ?_
    refine Ol.p addi ?_
    refine Ol.p asi ?_
    refine Ol.nil ?_
    have e1 : l'.length + 1 = (l' ++ [i.at_ Ai ci]).length := by simp
    have e2 : l'.flatMap RIns.cells ++ (i.at_ Ai ci).cells = (l' ++ [i.at_ Ai ci]).flatMap RIns.cells := by simp
    rw [e1, e2]
    refine ⟨l.length - (k + 1), by omega, k + 1, l' ++ [i.at_ Ai ci], A2, c2, insRes (i.at_ Ai ci) :: X, rfl, by omega, ?_, ?_, ⟨rfl, rfl, rfl, trivial⟩, rfl⟩
    · rw [take_snoc_ hi, List.map_append, List.map_append, hbare]; rfl
    · rw [List.map_append]
      exact ((hX.cons _).trans (List.perm_append_singleton _ _).symm)
  have hke : k = l.length := by
    simp only [decide_eq_false_iff_not] at h; omega
  refine Cd.exit (id := 0) ?_
  refine Cd.seq ?_
  refine Cd.region ?_
  refine Ol.p mvs ?_
  refine Ol.p ass ?_
  refine Ol.nil ?_
  exact Cd.ret ⟨_, ret1 rfl rfl, _, .all, l', A', c', X, by rw [hbare, hke, List.take_of_length_le (Nat.le_refl _)], rfl, hX, rfl⟩
end
section
def RBlk.at_ (b : RBlk) (A : Option Addr) (c : Nat) (l : List RIns) : RBlk := { b with iA := A, iC := c, ins := l }
theorem RBlk.at_bare {b : RBlk} {A : Option Addr} {c : Nat} {l : List RIns} (h : l.map RIns.bare = b.ins.map RIns.bare) : (b.at_ A c l).bare = b.bare := by
  unfold RBlk.bare RBlk.at_
  simp only [h]
theorem kit_CopyBlock_ct {w : World} {b : RBlk} (hl : Reads w w.heap.size 8 b.iA b.ins.length (b.ins.flatMap RIns.cells)) (ha : ∀ i ∈ b.ins, Reads w w.heap.size 1 i.aA i.args.length (ints i.args)) (hlen : b.ins.length < 2 ^ 36) (hal : ∀ i ∈ b.ins, i.args.length < 2 ^ 44) : Ct Try.prog 140 #[b.val] w (fun v R => ∃ b' : RBlk, b'.bare = b.bare ∧ v = b'.val ∧ R.Perm (blkRes b')) := by
  refine Ct.mk Try.func140 rfl rfl ?_
  refine Cd.seq ?_
  refine Cd.region ?_
  refine Ol.x bxg ?_
  rintro _ _ ⟨g1, rfl, rfl⟩
  refine Ol.x (alc zr_api_Block) ?_
  rintro _ _ ⟨g2, rfl, rfl⟩
  refine Ol.nil ?_
  refine Cd.seq ?_
  refine Cd.region ?_
  refine Ol.p (fdl fd_api_Block_0) ?_
  refine Ol.p (ld (v := .slice b.iA b.ins.length b.iC) one_L_api_Ins (Rd.blk (i := 1) rfl rfl)) ?_
  refine Ol.x (sp_call en_kit_CopyRow (fun M w' hh => kit_CopyRow_ct (l := b.ins) (hl.now hh) (fun i hi => (ha i hi).now hh) hlen hal)) ?_
  rintro _ _ ⟨_, rfl, l', A', c', X, hb, rfl, hX, rfl⟩
  refine Ol.keep Keep.comm ?_
  refine Ol.p (fdl fd_api_Block_0) ?_
  refine Ol.s (sto (v := .slice A' l'.length c') (i := 1) (k := 0 + 0) (.inr sz_L_api_Ins) rfl rfl rfl (by simp [RBlk.cells]) rfl) ?_
  refine Ol.nil ?_
  refine Cd.seq ?_
  refine Cd.region ?_
  refine Ol.p (ldw (cs := (b.at_ A' c' l').cells.toArray) ag_api_Block (i := 1) rfl rfl) ?_
  refine Ol.s (stw (vs := (b.at_ A' c' l').cells.toArray) sz_api_Block rfl (b.at_ A' c' l').one (i := 0) rfl rfl) ?_
  refine Ol.nil ?_
  exact Cd.ret ⟨_, retc rfl ag_api_Block rfl (i := 0) rfl rfl, _, .sub (.cons _ (.cons _ (List.Sublist.refl _))), b.at_ A' c' l', RBlk.at_bare hb, rfl, hX.cons _⟩
end
section
def NewBl (l : List RBlk) : Value → List Res → Prop := fun v R => ∃ (l' : List RBlk) (A : Option Addr) (c : Nat) (X : List Res), l'.map RBlk.bare = l.map RBlk.bare ∧ v = .slice A l'.length c ∧ X.Perm (l'.flatMap blkRes) ∧ R = row (.slice A l'.length c) 50 5 l'.length (l'.flatMap RBlk.cells) :: X
/-- A list of blocks that can be read from outside. -/
structure BlksIn (w : World) (B : Nat) (A : Option Addr) (l : List RBlk) : Prop where
  row : Reads w B 5 A l.length (l.flatMap RBlk.cells)
  ins : ∀ b ∈ l, Reads w B 8 b.iA b.ins.length (b.ins.flatMap RIns.cells)
  args : ∀ b ∈ l, ∀ i ∈ b.ins, Reads w B 1 i.aA i.args.length (ints i.args)
  len : l.length < 2 ^ 36
  ilen : ∀ b ∈ l, b.ins.length < 2 ^ 36
  alen : ∀ b ∈ l, ∀ i ∈ b.ins, i.args.length < 2 ^ 44
theorem BlksIn.now {w0 w : World} {B : Nat} {A : Option Addr} {l : List RBlk} {L : List Res} (h : BlksIn w0 B A l) (hh : Hp w0 B L w) : BlksIn w w.heap.size A l :=
  ⟨h.row.now hh, fun b hb => (h.ins b hb).now hh, fun b hb i hi => (h.args b hb i hi).now hh, h.len, h.ilen, h.alen⟩
set_option maxHeartbeats 2000000 in
theorem kit_CopyBlocks_ct {w : World} {A : Option Addr} {c : Nat} {l : List RBlk} (hl : BlksIn w w.heap.size A l) : Ct Try.prog 91 #[.slice A l.length c] w (NewBl l) := by
  have hlen := hl.len
  refine Ct.mk Try.func91 rfl rfl ?_
  refine Cd.nr 50 5 ?_
  refine Cd.seq ?_
  refine Cd.region ?_
  refine Ol.p ass ?_
  refine Ol.nil ?_
  refine Cd.seq ?_
  refine Cd.region ?_
  refine Ol.p ass ?_
  refine Ol.nil ?_
  refine Cd.seq ?_
  refine Cd.seq ?_
  refine Cd.region ?_
  refine Ol.p asi ?_
  refine Ol.nil ?_
  refine Cd.block ?_
  refine Cd.loop (fun m σ L => ∃ (k : Nat) (l' : List RBlk) (A' : Option Addr) (c' : Nat) (X : List Res), m = l.length - k ∧ k ≤ l.length ∧ l'.map RBlk.bare = (l.take k).map RBlk.bare ∧ X.Perm (l'.flatMap blkRes) ∧ Has σ [(0, .slice A l.length c), (3, .slice A' l'.length c'), (4, .int .i64 k)] ∧ row (.slice A' l'.length c') 50 5 l'.length (l'.flatMap RBlk.cells) :: X = L) (n := l.length) ⟨0, [], none, 0, [], rfl, Nat.zero_le _, rfl, .refl _, ⟨rfl, rfl, rfl, trivial⟩, rfl⟩ ?_
  rintro _ σ L ⟨k, l', A', c', X, rfl, hk, hbare, hX, hs, rfl⟩
  have hkl : l'.length = k := by
    have := congrArg List.length hbare
    simp at this; omega
  refine Cd.has hs ?_
  clear hs
  refine Cd.seq ?_
  refine Cd.seq ?_
  refine Cd.region ?_
  refine Ol.p mvi ?_
  refine Ol.p mvs ?_
  refine Ol.p (lens sl_L_api_Block) ?_
  refine Ol.p lsi ?_
  refine Ol.nil ?_
  refine Cd.cond rfl (fun h => ?_) (fun h => ?_)
  · have hlt : k < l.length := by
      simp only [decide_eq_true_eq] at h; omega
    obtain ⟨b, hb⟩ : ∃ b, l[k]? = some b := ⟨_, List.getElem?_eq_getElem hlt⟩
    have hbm := List.mem_of_getElem? hb
    refine Cd.skip ?_
    refine Cd.seq ?_
    refine Cd.block ?_
    refine Cd.seq ?_
    refine Cd.region ?_
    refine Ol.p mvs ?_
    refine Ol.p mvi ?_
    refine Ol.p (ixn (ix := k) sl_L_api_Block (Som.slc hl.row (by omega))) ?_
    refine Ol.p (lds (es := b.cells) ag_api_Block hl.row b.len (fun j u hu => blk_cell hb hu)) ?_
    refine Ol.x (sp_call en_kit_CopyBlock (fun M w' hh => kit_CopyBlock_ct (b := b) ((hl.ins b hbm).now hh) (fun i hi => (hl.args b hbm i hi).now hh) (hl.ilen b hbm) (hl.alen b hbm))) ?_
    rintro _ _ ⟨Y, rfl, b', hb', rfl, hY⟩
    refine Ol.keep (L' := [row (.slice A' l'.length c') 50 5 l'.length (l'.flatMap RBlk.cells)] ++ (X ++ blkRes b')) ⟨[], perm_count fun _ x => by
      have := hY.count_eq x
      simp only [List.count_append, List.count_cons, List.count_nil, List.cons_append, List.nil_append, List.append_nil]; omega⟩ ?_
    refine Ol.x (alc zr_api_Block) ?_
    rintro _ _ ⟨g5, rfl, rfl⟩
    refine Ol.s (stw (vs := b'.cells.toArray) sz_api_Block rfl b'.one (i := 0) rfl rfl) ?_
    refine Ol.nil ?_
    refine Cd.region ?_
    refine Ol.p mvs ?_
    refine Ol.p (ldw (cs := b'.cells.toArray) ag_api_Block (i := 0) rfl rfl) ?_
    refine Ol.x (bs1 (cs := b'.cells) sl_L_api_Block zr_api_Block rfl rfl) ?_
    rintro _ _ ⟨g19, rfl, rfl⟩
    refine Ol.x (apn (i := 2) (m := 1) sl_L_api_Block zr_api_Block rfl (by decide) rfl (Src.row (i := 0) rfl rfl) b'.one (by unfold maxLen; omega) (by omega)) ?_
    rintro _ _ ⟨A2, c2, rfl, rfl⟩
    refine Ol.p ass ?_
    refine Ol.keep (.sub (.cons _ (.cons _ (List.Sublist.refl _)))) ?_
    refine Ol.nil ?_
    refine Cd.region ?_
    refine Ol.p mvi ?_
    refine Ol.p addi ?_
    refine Ol.p asi ?_
    refine Ol.nil ?_
    have e1 : l'.length + 1 = (l' ++ [b']).length := by simp
    have e2 : l'.flatMap RBlk.cells ++ b'.cells = (l' ++ [b']).flatMap RBlk.cells := by simp
    rw [e1, e2]
    refine ⟨l.length - (k + 1), by omega, k + 1, l' ++ [b'], A2, c2, X ++ blkRes b', rfl, by omega, ?_, ?_, ⟨rfl, rfl, rfl, trivial⟩, rfl⟩
    · rw [take_snoc_ hb, List.map_append, List.map_append, hbare]; simp [hb']
    · rw [List.flatMap_append]
      refine List.Perm.append hX ?_
      simp
  have hke : k = l.length := by
    simp only [decide_eq_false_iff_not] at h; omega
  refine Cd.exit (id := 0) ?_
  refine Cd.seq ?_
  refine Cd.region ?_
  refine Ol.p mvs ?_
  refine Ol.p ass ?_
  refine Ol.nil ?_
  exact Cd.ret ⟨_, ret1 rfl rfl, _, .all, l', A', c', X, by rw [hbare, hke, List.take_of_length_le (Nat.le_refl _)], rfl, hX, rfl⟩
end
section
theorem kit_CopyFunc_ct {w : World} {f : RFun} (hf : FunAt w w.heap.size f) (hp : f.params.length < 2 ^ 44) (hl : BlksIn w w.heap.size f.bA f.blocks) : Ct Try.prog 41 #[f.val] w (fun v R => ∃ g : RFun, g.bare = f.bare ∧ v = g.val ∧ R.Perm (funRes g)) := by
  refine Ct.mk Try.func41 rfl rfl ?_
  refine Cd.seq ?_
  refine Cd.region ?_
  refine Ol.x bxg ?_
  rintro _ _ ⟨g1, rfl, rfl⟩
  refine Ol.x (alc zr_api_Func) ?_
  rintro _ _ ⟨g2, rfl, rfl⟩
  refine Ol.nil ?_
  refine Cd.seq ?_
  refine Cd.region ?_
  refine Ol.p (fdl fd_api_Func_0) ?_
  refine Ol.p (ld (v := .slice f.pA f.params.length f.pC) one_L_int (Rd.blk (i := 1) rfl rfl)) ?_
  refine Ol.x (sp_call en_kit_CopyInts (fun M w' hh => kit_CopyInts_ct (l := f.params) (hf.params.now hh) hp)) ?_
  rintro _ _ ⟨_, rfl, A', c', rfl, rfl⟩
  refine Ol.p (fdl fd_api_Func_0) ?_
  refine Ol.s (sto (v := .slice A' f.params.length c') (i := 2) (k := 0 + 0) (.inr sz_L_int) rfl rfl rfl (by simp [RFun.cells]) rfl) ?_
  refine Ol.nil ?_
  refine Cd.seq ?_
  refine Cd.region ?_
  refine Ol.p (fdl fd_api_Func_1) ?_
  refine Ol.p (ld (v := .slice f.bA f.blocks.length f.bC) one_L_api_Block (Rd.blk (i := 2) rfl rfl)) ?_
  refine Ol.x (sp_call en_kit_CopyBlocks (fun M w' hh => kit_CopyBlocks_ct (l := f.blocks) (hl.now hh))) ?_
  rintro _ _ ⟨_, rfl, l', A2, c2, X, hb, rfl, hX, rfl⟩
  refine Ol.keep Keep.comm ?_
  obtain ⟨g, hg⟩ : ∃ g : RFun, g = ⟨A', c', f.params, A2, c2, l'⟩ := ⟨_, rfl⟩
  refine Ol.p (fdl fd_api_Func_1) ?_
  refine Ol.s (sto (v := .slice A2 l'.length c2) (i := 2) (k := 0 + 1) (.inr sz_L_api_Block) rfl rfl rfl (by simp [RFun.cells]) rfl) ?_
  refine Ol.nil ?_
  refine Cd.seq ?_
  refine Cd.region ?_
  refine Ol.p (ldw (cs := #[.slice A' f.params.length c', .slice A2 l'.length c2]) ag_api_Func (i := 2) rfl rfl) ?_
  refine Ol.s (stw (vs := #[.slice A' f.params.length c', .slice A2 l'.length c2]) sz_api_Func rfl (by intro u hu; simp at hu; rcases hu with rfl | rfl <;> rfl) (i := 1) rfl rfl) ?_
  refine Ol.nil ?_
  refine Cd.ret ⟨_, retc rfl ag_api_Func rfl (i := 1) rfl rfl, _, .sub (.cons_cons _ (.cons _ (.cons _ (List.Sublist.refl _)))), g, ?_, by rw [hg]; rfl, ?_⟩
  · rw [hg]
    unfold RFun.bare
    simp only [hb]
  · rw [hg]
    exact (hX.cons _).cons _
end
end Go.Proofs.Ytcojedoejpcolaa

