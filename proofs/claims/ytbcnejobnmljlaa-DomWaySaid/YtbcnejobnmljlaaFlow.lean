/- The package flow: edges, walked. -/
import Derived.Test.YtbcnejobnmljlaaIr
import Derived.Test.YtbcnejobnmljlaaBits2
namespace Go.Proofs.Ytbcnejobnmljlaa
set_option linter.unusedVariables false
open Go Go.RowKit
set_option maxRecDepth 100000

theorem RBlk.one (b : RBlk) : ∀ u ∈ b.cells, u.oneCell' = true := by
  intro u hu
  simp only [RBlk.cells, Tm.cells, List.mem_cons, List.not_mem_nil, or_false] at hu
  rcases hu with rfl | rfl | rfl | rfl | rfl <;> rfl
theorem Ed.one (e : Ed) : ∀ u ∈ e.cells, u.oneCell' = true := by
  intro u hu
  simp only [Ed.cells, List.mem_cons, List.not_mem_nil, or_false] at hu
  rcases hu with rfl | rfl | rfl <;> rfl
theorem Ed.one1 (e : Ed) : ∀ u ∈ [e.val].flatMap (fun v => v.cells.toList), u.oneCell' = true := by
  intro u hu
  have hu : u ∈ e.cells := by simpa [Ed.val, Value.cells] using hu
  exact e.one u hu
theorem edV_one (l : List Ed) : ∀ u ∈ edV l, u.oneCell' = true := by
  intro u hu
  simp only [edV, List.mem_flatMap] at hu
  obtain ⟨e, _, h⟩ := hu
  exact e.one u h
def ysE (ts : List Tm) : List (List Value) := (edges ts).map fun e => [e.val]
theorem ysE_get {ts : List Tm} {k : Nat} {vs : List Value} (h : (ysE ts)[k]? = some vs) : ∃ e, (edges ts)[k]? = some e ∧ vs = [e.val] ∧ k < (edges ts).length := by
  unfold ysE at h
  rw [List.getElem?_map] at h
  cases hn : (edges ts)[k]? with
  | none => rw [hn] at h; cases h
  | some e => rw [hn] at h; cases h; exact ⟨e, rfl, rfl, (List.getElem?_eq_some_iff.1 hn).1⟩
theorem ysE_len (ts : List Tm) : (ysE ts).length = (edges ts).length := by simp [ysE]
theorem ysE_one {ts : List Tm} : ∀ vs ∈ ysE ts, vs.length = 1 := by
  intro vs hvs
  unfold ysE at hvs
  rw [List.mem_map] at hvs
  obtain ⟨e, _, rfl⟩ := hvs
  rfl
section
def FEachV (g : Nat) : Value := .func (.func 24) #[] #[.pointer (some ⟨g, 0, none⟩)]
theorem flow_each_ct {w : World} {f : RFun} : Ct Try.prog 17 #[f.val] w (fun v L => ∃ g, v = FEachV g ∧ L = [blk g (.cells f.cells.toArray 25)]) := by
  refine Ct.mk Try.func17 rfl rfl ?_
  refine Cd.seq ?_
  refine Cd.region ?_
  refine Ol.x bxg ?_
  rintro _ _ ⟨g1, rfl, rfl⟩
  refine Ol.p (as_ rfl) ?_
  refine Ol.nil ?_
  refine Cd.seq ?_
  refine Cd.region ?_
  refine Ol.p mkf ?_
  refine Ol.p asf ?_
  refine Ol.nil ?_
  refine Cd.ret ⟨_, ret1 rfl rfl, _, .all, g1, rfl, rfl⟩
set_option maxHeartbeats 1000000 in
theorem flow_each_1_it {w0 : World} {B g : Nat} {f : RFun} (hf : FunAt w0 B f) (hfit : Fit f) : It Try.prog w0 B 24 #[.pointer (some ⟨g, 0, none⟩)] [blk g (.cells f.cells.toArray 25)] (ysE f.terms) := by
  intro y J Jx L0 hY h0
  have hbl := hfit.blen
  have htl : f.terms.length = f.blocks.length := by simp [RFun.terms]
  refine Cm.mk Try.func24 rfl rfl fun M => ?_
  have hret : ∀ {e : Exit} {σ : Env} {Lj D : List Res}, (e = .ret ∨ e = .normal) → (J (ysE f.terms).length Lj ∨ ∃ k, Jx k Lj) → Out ⟨Try.prog, 33, none, w0, B, M⟩ Try.f24 (fun _ L => ∃ Own' Lj, L = Own' ++ Lj ∧ (J (ysE f.terms).length Lj ∨ ∃ k, Jx k Lj)) e σ (D ++ Lj) := fun {e σ Lj D} he h => by
    rcases he with rfl | rfl <;> exact ⟨_, ret0 rfl, _, .all, D, Lj, rfl, h⟩
  refine Cd.seq ?_
  refine Cd.region ?_
  refine Ol.p (fdl fd_api_Func_1) ?_
  refine Ol.p (ld one_L_api_Block (Rd.blk (i := 0) rfl rfl)) ?_
  refine Ol.p (lens sl_L_api_Block) ?_
  refine Ol.p mvi ?_
  refine Ol.nil ?_
  refine Cd.block ?_
  refine Cd.loop (fun m σ L => ∃ k Lj, m = f.blocks.length - k ∧ k ≤ f.blocks.length ∧ Has σ [(0, .func (.yield y) #[] #[]), (8, .slice f.bA f.blocks.length f.bC), (9, .int .i64 f.blocks.length), (10, .int .i64 k)] ∧ L = blk g (.cells f.cells.toArray 25) :: Lj ∧ J (edgesTo f.terms k).length Lj) (n := f.blocks.length) ⟨0, L0, rfl, Nat.zero_le _, ⟨rfl, rfl, rfl, rfl, trivial⟩, rfl, h0⟩ ?_
  rintro _ σ L ⟨k, Lj, rfl, hk, hs, rfl, hJ⟩
  refine Cd.has hs ?_
  refine Cd.seq ?_
  refine Cd.region ?_
  refine Ol.p lsi ?_
  refine Ol.nil ?_
  refine Cd.seq ?_
  refine Cd.cond rfl (fun h => ?_) (fun h => ?_)
  · have hlt : k < f.blocks.length := by simpa using h
    obtain ⟨b, hb⟩ : ∃ b, f.blocks[k]? = some b := ⟨_, List.getElem?_eq_getElem hlt⟩
    have ht : f.terms[k]? = some b.term := by simp [RFun.terms, hb]
    refine Cd.skip ?_
    refine Cd.mid (fun σ' L' => ∃ Lj', Has σ' [(0, .func (.yield y) #[] #[]), (8, .slice f.bA f.blocks.length f.bC), (9, .int .i64 f.blocks.length), (10, .int .i64 k)] ∧ L' = blk g (.cells f.cells.toArray 25) :: Lj' ∧ J (edgesTo f.terms (k + 1)).length Lj') ?_ ?_
    · refine Cd.block ?_
      refine Cd.seq ?_
      refine Cd.region ?_
      refine Ol.p mvi ?_
      refine Ol.p (ixn sl_L_api_Block (Som.slc hf.blocks (by omega))) ?_
      refine Ol.p (lds ag_api_Block hf.blocks b.len (fun j u hu => by rw [hf.cell hb (List.getElem?_eq_some_iff.1 hu).1]; exact hu)) ?_
      refine Ol.x (alc zr_api_Block) ?_
      rintro _ _ ⟨g4, rfl, rfl⟩
      refine Ol.p asi ?_
      refine Ol.s (stw sz_api_Block rfl b.one (i := 0) rfl rfl) ?_
      refine Ol.nil ?_
      refine Cd.seq ?_
      refine Cd.region ?_
      refine Ol.p (fdl fd_api_Block_1) ?_
      refine Ol.p (ldp (k := 0 + 1) (vs := b.term.cells.toArray) ag_api_Term (i := 0) rfl rfl (fun j u hu => by rw [Nat.zero_add, Nat.add_comm]; simpa [RBlk.cells] using hu)) ?_
      refine Ol.x (sp_call en_ir_To (fun M' w' hh => ir_To_ct (t := b.term))) ?_
      rintro _ _ ⟨_, rfl, A, c, rfl, rfl⟩
      refine Ol.p (lens sl_L_int) ?_
      refine Ol.p mvi ?_
      refine Ol.nil ?_
      obtain ⟨to, hto⟩ : ∃ to, to = toL b.term := ⟨_, rfl⟩
      have htoL := toL_len b.term
      rw [← hto] at htoL ⊢
      refine Cd.block ?_
      refine Cd.loop (fun m σ L => ∃ j Lj, m = to.length - j ∧ j ≤ to.length ∧ Has σ [(0, .func (.yield y) #[] #[]), (3, .int .i64 k), (8, .slice f.bA f.blocks.length f.bC), (9, .int .i64 f.blocks.length), (10, .int .i64 k), (17, .slice A to.length c), (18, .int .i64 to.length), (19, .int .i64 j)] ∧ L = [row (.slice A to.length c) 3 1 to.length (ints to), blk g4 (.cells b.cells.toArray 44), blk g (.cells f.cells.toArray 25)] ++ Lj ∧ J ((edgesTo f.terms k).length + j) Lj) (n := to.length) ⟨0, Lj, rfl, Nat.zero_le _, ⟨rfl, rfl, rfl, rfl, rfl, rfl, rfl, rfl, trivial⟩, rfl, hJ⟩ ?_
      rintro _ σ L ⟨j, Lj, rfl, hj, hs, rfl, hJ⟩
      refine Cd.has hs ?_
      refine Cd.seq ?_
      refine Cd.region ?_
      refine Ol.p lsi ?_
      refine Ol.nil ?_
      refine Cd.seq ?_
      refine Cd.cond rfl (fun h => ?_) (fun h => ?_)
      · have hjl : j < to.length := by simpa using h
        have hget := ints_get hjl
        have hy1 : (ysE f.terms)[(edgesTo f.terms k).length + j]? = some [.agg #[.int .i64 k, .int .i64 j, .int .i64 to[j]]] := by
          unfold ysE
          rw [List.getElem?_map, edges_get ht (by rw [← hto]; exact List.getElem?_eq_getElem hjl)]
          rfl
        refine Cd.skip ?_
        refine Cd.seq ?_
        refine Cd.block ?_
        refine Cd.seq ?_
        refine Cd.region ?_
        refine Ol.p mvi ?_
        refine Ol.p (ixn1 sl_L_int (Som.row (i := 0) rfl (by omega))) ?_
        refine Ol.p (ld one_int (Rd.row (i := 0) rfl hget)) ?_
        refine Ol.p asi ?_
        refine Ol.p asi ?_
        refine Ol.nil ?_
        refine Cd.seq ?_
        refine Cd.region ?_
        refine Ol.p mvf ?_
        refine Ol.p mvi ?_
        refine Ol.p mvi ?_
        refine Ol.p mvi ?_
        refine Ol.p (bds bs_api_Edge zr_api_Edge) ?_
        refine Ol.x (sp_yield (Own := [row (.slice A to.length c) 3 1 to.length (ints to), blk g4 (.cells b.cells.toArray 44), blk g (.cells f.cells.toArray 25)]) hY hy1 hJ) ?_
        rintro _ _ ⟨bb, Lj', rfl, rfl, ht', hf'⟩
        refine Ol.p noti ?_
        refine Ol.nil ?_
        refine Cd.cond rfl (fun hb => ?_) (fun hb => ?_)
        · have hb' : bb = false := by simpa using hb
          exact Cd.ret (hret (.inl rfl) (.inr ⟨_, hf' hb'⟩))
        · have hb' : bb = true := by simpa using hb
          refine Cd.skip ?_
          refine Cd.region ?_
          refine Ol.p addi ?_
          refine Ol.p mvi ?_
          refine Ol.nil ?_
          exact ⟨to.length - (j + 1), by omega, j + 1, Lj', rfl, by omega, ⟨rfl, rfl, rfl, rfl, rfl, rfl, rfl, rfl, trivial⟩, rfl, ht' hb'⟩
      · have hge : j = to.length := by
          have : ¬ (j : Int) < to.length := by simpa using h
          omega
        refine Cd.keep (L' := blk g (.cells f.cells.toArray 25) :: Lj) (.sub (.cons _ (.cons _ (List.Sublist.refl _)))) ?_
        refine Cd.exit (id := 2) ⟨Lj, ⟨rfl, rfl, rfl, rfl, trivial⟩, rfl, ?_⟩
        rw [edgesTo_succ ht, List.length_append, edgesB_len, ← hto, ← hge]
        exact hJ
    · rintro σ' _ ⟨Lj', hs', rfl, hJ'⟩
      refine Cd.has hs' ?_
      refine Cd.region ?_
      refine Ol.p addi ?_
      refine Ol.p mvi ?_
      refine Ol.nil ?_
      exact ⟨f.blocks.length - (k + 1), by omega, k + 1, Lj', rfl, by omega, ⟨rfl, rfl, rfl, rfl, trivial⟩, rfl, hJ'⟩
  · have hge : k = f.blocks.length := by
      have : ¬ (k : Int) < f.blocks.length := by simpa using h
      omega
    subst hge
    refine Cd.exit (id := 0) ?_
    refine hret (D := [_]) (.inr rfl) (.inl ?_)
    rw [ysE_len]
    unfold edges
    rw [htl]
    exact hJ
end
section
def okE (n : Nat) (e : Ed) : Bool := decide (0 ≤ e.to) && decide (e.to < (n : Int))
theorem uint_ge {a : Int} {n : Nat} (h : -9223372036854775808 ≤ a ∧ a ≤ 9223372036854775807) (hn : n < 2 ^ 50) : decide (IntKind.u64.wrap (n : Int) ≤ IntKind.u64.wrap a) = !(decide (0 ≤ a) && decide (a < (n : Int))) := by
  rw [wrapU, wrapU]
  by_cases h1 : 0 ≤ a <;> by_cases h2 : a < (n : Int) <;> simp [h1, h2] <;> omega
theorem edge_i64 {f : RFun} (hfit : Fit f) {e : Ed} (he : e ∈ edges f.terms) : (-9223372036854775808 ≤ e.to ∧ e.to ≤ 9223372036854775807) ∧ (0 ≤ e.src ∧ e.src < (f.blocks.length : Int)) ∧ (0 ≤ e.arm ∧ e.arm < 2) := by
  obtain ⟨k, j, t, hk, hj, h1, h2⟩ := mem_edges.1 he
  have hkl := (List.getElem?_eq_some_iff.1 hk).1
  unfold RFun.terms at hk hkl
  rw [List.getElem?_map] at hk
  cases hb : f.blocks[k]? with
  | none => rw [hb] at hk; cases hk
  | some b =>
    rw [hb] at hk
    cases hk
    have hbm := List.mem_of_getElem? hb
    have hjl := (List.getElem?_eq_some_iff.1 hj).1
    have hlen := toL_len b.term
    refine ⟨?_, ⟨by omega, by simp at hkl; omega⟩, by omega, by omega⟩
    rcases toL_mem (List.mem_of_getElem? hj) with e | e
    · exact hfit.term b hbm _ (by simp [e])
    · exact hfit.term b hbm _ (by simp [e])
set_option maxHeartbeats 1000000 in
theorem flow_Closed_ct {w : World} {f : RFun} (hf : FunAt w w.heap.size f) (hfit : Fit f) : Ct Try.prog 6 #[f.val] w (Is (.bool (closed f.terms))) := by
  have hbl := hfit.blen
  have htl : f.terms.length = f.blocks.length := by simp [RFun.terms]
  refine Ct.mk Try.func6 rfl rfl ?_
  refine Cd.seq ?_
  refine Cd.region ?_
  refine Ol.x bxg ?_
  rintro _ _ ⟨g1, rfl, rfl⟩
  refine Ol.x (alc zr_bool) ?_
  rintro _ _ ⟨g2, rfl, rfl⟩
  refine Ol.nil ?_
  refine Cd.seq ?_
  refine Cd.seq ?_
  refine Cd.region ?_
  refine Ol.p (ldw ag_api_Func (i := 1) rfl rfl) ?_
  refine Ol.x (sp_call en_flow_each (fun M w' hh => flow_each_ct (f := f))) ?_
  rintro _ _ ⟨_, rfl, gE, rfl, rfl⟩
  refine Ol.nil ?_
  refine Cd.block ?_
  refine Cd.rf (Own := [blk gE (.cells f.cells.toArray 25)]) (L0 := [blk g2 (.cells #[.bool false] 4), blk g1 (.cells f.cells.toArray 25)])
    (fun k L => L = [blk g2 (.cells #[.bool false] 4), blk g1 (.cells f.cells.toArray 25)] ∧ ∀ i e, i < k → (edges f.terms)[i]? = some e → okE f.blocks.length e = true)
    (fun _ c L => c = .ret ∧ L = [blk g2 (.cells #[.bool false] 4), blk g1 (.cells f.cells.toArray 25)] ∧ closed f.terms = false) (fun _ h => by cases h) en_flow_each_1 (flow_each_1_it hf hfit) (.refl _) ⟨rfl, fun i e h => by omega⟩ ysE_one rfl ?_ ?_ ?_
  · rintro l H k vs Lj hk ⟨rfl, hok⟩
    obtain ⟨e, he, rfl, hlt⟩ := ysE_get hk
    have hem := List.mem_of_getElem? he
    have hei := edge_i64 hfit hem
    refine Cd.region ?_
    refine Ol.x (alc zr_api_Edge) ?_
    rintro _ _ ⟨g3, rfl, rfl⟩
    refine Ol.s (stw sz_api_Edge rfl e.one (i := 0) rfl rfl) ?_
    refine Ol.nil ?_
    intro H' r hr
    refine Cd.block ?_
    refine Cd.seq ?_
    refine Cd.region ?_
    refine Ol.p (fdl fd_api_Edge_2) ?_
    refine Ol.p (ld one_int (Rd.blk (i := 0) rfl rfl)) ?_
    refine Ol.p (cvw in_int in_uint) ?_
    refine Ol.p (fdl fd_api_Func_1) ?_
    refine Ol.p (ld one_L_api_Block (Rd.blk (i := 2) rfl rfl)) ?_
    refine Ol.p (lens sl_L_api_Block) ?_
    refine Ol.p (cvw in_int in_uint) ?_
    refine Ol.p gei ?_
    refine Ol.nil ?_
    refine Cd.cond rfl (fun h => ?_) (fun h => ?_)
    · rw [uint_ge hei.1 hbl] at h
      refine Cd.seq ?_
      refine Cd.region ?_
      refine Ol.s (stv sz_bool (i := 1) rfl rfl) ?_
      refine Ol.keep (.sub (.cons _ (List.Sublist.refl _))) ?_
      refine Ol.nil ?_
      refine Cd.ret ⟨rfl, rfl, ?_⟩
      unfold closed
      have : (edges f.terms).all (fun e => decide (0 ≤ e.to) && decide (e.to < (f.terms.length : Int))) = false := by
        rw [List.all_eq_false]
        refine ⟨e, hem, ?_⟩
        rw [htl]
        simp at h ⊢
        omega
      rw [this]; rfl
    · rw [uint_ge hei.1 hbl] at h
      refine Cd.keep (L' := [blk g2 (.cells #[.bool false] 4), blk g1 (.cells f.cells.toArray 25)]) (.sub (.cons _ (List.Sublist.refl _))) ?_
      refine Cd.skip ⟨rfl, ?_⟩
      intro i e' hi he'
      rcases Nat.lt_or_ge i k with h3 | h3
      · exact hok i e' h3 he'
      · have : i = k := by omega
        subst this
        rw [he] at he'
        cases he'
        unfold okE
        simp at h ⊢
        omega
  · rintro L' ⟨rfl, hok⟩
    have hall : (edges f.terms).all (fun e => decide (0 ≤ e.to) && decide (e.to < (f.terms.length : Int))) = true := by
      rw [List.all_eq_true]
      intro e he
      obtain ⟨i, hi, rfl⟩ := List.getElem_of_mem he
      have := hok i _ (by rw [ysE_len]; exact hi) (List.getElem?_eq_getElem hi)
      rw [htl]; exact this
    refine Cd.seq ?_
    cases h4 : decide ((0 : Int) < (f.blocks.length : Int)) with
    | true =>
      refine Cd.region ?_
      refine Ol.p (fdl fd_api_Func_1) ?_
      refine Ol.p (ld one_L_api_Block (Rd.blk (i := 1) rfl rfl)) ?_
      refine Ol.p (lens sl_L_api_Block) ?_
      refine Ol.p gti ?_
      refine Ol.p mvb ?_
      refine Ol.gp h4 (fdl fd_api_Func_1) ?_
      refine Ol.gp h4 (ld one_L_api_Block (Rd.blk (i := 1) rfl rfl)) ?_
      refine Ol.gp h4 (lens sl_L_api_Block) ?_
      refine Ol.gp h4 lei ?_
      refine Ol.p (pkTb h4) ?_
      refine Ol.s (stv sz_bool (i := 0) rfl rfl) ?_
      refine Ol.nil ?_
      refine Cd.ret ⟨.bool _, retv rfl one_bool rfl (i := 0) rfl rfl, [], .nil, ?_, rfl⟩
      have h4' : 0 < f.blocks.length := by simpa using h4
      unfold closed
      rw [hall, htl]
      simp [h4']
      omega
    | false =>
      refine Cd.region ?_
      refine Ol.p (fdl fd_api_Func_1) ?_
      refine Ol.p (ld one_L_api_Block (Rd.blk (i := 1) rfl rfl)) ?_
      refine Ol.p (lens sl_L_api_Block) ?_
      refine Ol.p gti ?_
      refine Ol.p mvb ?_
      refine Ol.gn h4 ?_
      refine Ol.gn h4 ?_
      refine Ol.gn h4 ?_
      refine Ol.gn h4 ?_
      refine Ol.p (pkFb h4) ?_
      refine Ol.s (stv sz_bool (i := 0) rfl rfl) ?_
      refine Ol.nil ?_
      refine Cd.ret ⟨.bool _, retv rfl one_bool rfl (i := 0) rfl rfl, [], .nil, ?_, rfl⟩
      have h4' : f.blocks.length = 0 := by simpa using h4
      unfold closed
      rw [htl, h4']
      simp
  · rintro k c L' ⟨rfl, rfl, hcl⟩
    refine Cd.ret ⟨.bool _, retv rfl one_bool rfl (i := 0) rfl rfl, [], .nil, ?_, rfl⟩
    rw [hcl]
end
/-- A function value that tells whether something is so of edges. -/
def TellsE (P : Program) (w : World) (g : FuncId) (fst cap : Array Value) (ts : List Tm) (p : Ed → Bool) : Prop := Ent P g ∧ ∀ e ∈ edges ts, ∀ w', Below w.heap.size w w' → Ct P g (fst ++ #[e.val] ++ cap) w' (Is (.bool (p e)))
theorem filter_snoc {ts : List Tm} {p : Ed → Bool} {k : Nat} {e : Ed} (h : (edges ts)[k]? = some e) : ((edges ts).take (k + 1)).filter p = ((edges ts).take k).filter p ++ (if p e = true then [e] else []) := by
  rw [take_snoc_ h, List.filter_append]
  congr 1
  by_cases hp : p e = true <;> simp [hp]
theorem edV_app (a b : List Ed) : edV (a ++ b) = edV a ++ edV b := by simp [edV]
theorem closed_len {ts : List Tm} (h : closed ts = true) : 0 < ts.length ∧ ts.length ≤ 200 ∧ ∀ e ∈ edges ts, 0 ≤ e.to ∧ e.to < (ts.length : Int) := by
  unfold closed at h
  simp only [Bool.and_eq_true, decide_eq_true_eq, List.all_eq_true] at h
  exact ⟨h.1.2, h.2, fun e he => h.1.1 e he⟩
section
set_option maxHeartbeats 1000000 in
theorem flow_some_ct {w : World} {f : RFun} {g : FuncId} {fst cap : Array Value} {p : Ed → Bool} (hf : FunAt w w.heap.size f) (hfit : Fit f) (hp : TellsE Try.prog w g fst cap f.terms p) :
    Ct Try.prog 18 #[f.val, .func (.func g) fst cap] w (NewL 32 3 (someE f.terms p).length (edV (someE f.terms p))) := by
  have hbl := hfit.blen
  have htl : f.terms.length = f.blocks.length := by simp [RFun.terms]
  refine Ct.mk Try.func18 rfl rfl ?_
  refine Cd.seq ?_
  refine Cd.region ?_
  refine Ol.x bxg ?_
  rintro _ _ ⟨g2, rfl, rfl⟩
  refine Ol.x bxf ?_
  rintro _ _ ⟨g3, rfl, rfl⟩
  refine Ol.x (alc zr_L_api_Edge) ?_
  rintro _ _ ⟨g4, rfl, rfl⟩
  refine Ol.nil ?_
  refine Cd.seq ?_
  refine Cd.seq ?_
  refine Cd.region ?_
  refine Ol.p (ldw ag_api_Func (i := 2) rfl rfl) ?_
  refine Ol.s (cl en_flow_Closed (fun M w' hh => flow_Closed_ct (hf.now hh) hfit)) ?_
  refine Ol.p noti ?_
  refine Ol.nil ?_
  refine Cd.cond rfl (fun h => ?_) (fun h => ?_)
  · have hcl : closed f.terms = false := by simpa using h
    refine Cd.seq ?_
    refine Cd.region ?_
    refine Ol.s (stv sz_L_api_Edge (i := 0) rfl rfl) ?_
    refine Ol.nil ?_
    have e : someE f.terms p = [] := by unfold someE; rw [hcl]; rfl
    rw [e]
    refine Cd.nr 32 3 ?_
    refine Cd.ret ⟨.slice none 0 0, retv rfl one_L_api_Edge rfl (i := 1) rfl rfl, _, .sub (.cons_cons _ (.cons _ (.cons _ (.cons _ .slnil)))), none, 0, rfl, rfl⟩
  · have hcl : closed f.terms = true := by simpa using h
    obtain ⟨hpos, hmax, _⟩ := closed_len hcl
    have hel := edgesTo_len_le f.terms f.terms.length
    have e : someE f.terms p = (edges f.terms).filter p := by unfold someE; rw [hcl]; rfl
    rw [e]
    refine Cd.skip ?_
    refine Cd.seq ?_
    refine Cd.seq ?_
    refine Cd.region ?_
    refine Ol.p (ldw ag_api_Func (i := 2) rfl rfl) ?_
    refine Ol.x (sp_call en_flow_each (fun M w' hh => flow_each_ct (f := f))) ?_
    rintro _ _ ⟨_, rfl, gE, rfl, rfl⟩
    refine Ol.nil ?_
    refine Cd.block ?_
    refine Cd.nr 32 3 ?_
    refine Cd.rf (Own := [blk gE (.cells f.cells.toArray 25)]) (L0 := [row (.slice none 0 0) 32 3 0 [], blk g4 (.cells #[.slice none 0 0] 29), blk g3 (.cells #[.func (.func g) fst cap] 55), blk g2 (.cells f.cells.toArray 25)])
      (fun k L => ∃ A c n, n = (((edges f.terms).take k).filter p).length ∧ L = [row (.slice A n c) 32 3 n (edV (((edges f.terms).take k).filter p)), blk g4 (.cells #[.slice A n c] 29), blk g3 (.cells #[.func (.func g) fst cap] 55), blk g2 (.cells f.cells.toArray 25)])
      (fun _ _ _ => False) (fun _ h => by cases h) en_flow_each_1 (flow_each_1_it hf hfit) (.swap _ _ _) ⟨none, 0, 0, rfl, rfl⟩ ysE_one rfl ?_ ?_ (fun _ _ _ h => h.elim)
    · rintro l H k vs Lj hk ⟨A, c, n, hn, rfl⟩
      obtain ⟨e, he, rfl, hlt⟩ := ysE_get hk
      have hem := List.mem_of_getElem? he
      have hnk : n ≤ k := by rw [hn]; exact Nat.le_trans (List.length_filter_le _ _) (by simp; omega)
      have hlt2 : k < 400 := by unfold edges at hlt; omega
      refine Cd.region ?_
      refine Ol.x (alc zr_api_Edge) ?_
      rintro _ _ ⟨g5, rfl, rfl⟩
      refine Ol.s (stw sz_api_Edge rfl e.one (i := 0) rfl rfl) ?_
      refine Ol.nil ?_
      intro H' r hr
      refine Cd.block ?_
      refine Cd.seq ?_
      refine Cd.region ?_
      refine Ol.p (ldv one_func_api_Edge_bool (i := 3) rfl) ?_
      refine Ol.p (ldw ag_api_Edge (i := 0) rfl rfl) ?_
      refine Ol.x (sp_callv hp.1 (fun M w' hh => hp.2 e hem w' hh.below)) ?_
      rintro _ _ ⟨_, rfl, rfl, rfl⟩
      refine Ol.nil ?_
      refine Cd.cond rfl (fun h => ?_) (fun h => ?_)
      · skip
        refine Cd.region ?_
        refine Ol.p (ldv one_L_api_Edge (i := 2) rfl) ?_
        refine Ol.p (ldw ag_api_Edge (i := 0) rfl rfl) ?_
        refine Ol.x (bsn [e.val] sl_L_api_Edge zr_api_Edge (by intro v hv; cases hv with | head => rfl | tail _ h => cases h) rfl (by decide) (by decide)) ?_
        rintro _ _ ⟨g17, rfl, rfl⟩
        refine Ol.x (apn (i := 2) (m := 1) sl_L_api_Edge zr_api_Edge rfl (by decide) rfl (Src.row (i := 0) rfl rfl) e.one1 (by unfold maxLen; omega) (by omega)) ?_
        rintro _ _ ⟨A', c', rfl, rfl⟩
        refine Ol.s (stv sz_L_api_Edge (i := 3) rfl rfl) ?_
        refine Ol.keep (.sub (.cons _ (.cons _ (List.Sublist.refl _)))) ?_
        refine Ol.nil ?_
        refine ⟨A', c', n + 1, ?_, ?_⟩
        · rw [filter_snoc he, if_pos h, List.length_append, ← hn]; rfl
        · rw [filter_snoc he, if_pos h, edV_app]
          rfl
      · refine Cd.keep (.sub (.cons _ (List.Sublist.refl _))) ?_
        refine Cd.skip ⟨A, c, n, ?_, ?_⟩
        · rw [filter_snoc he, if_neg (by rw [h]; simp), List.append_nil]; exact hn
        · rw [filter_snoc he, if_neg (by rw [h]; simp), List.append_nil]
    · rintro L' ⟨A, c, n, hn, rfl⟩
      rw [ysE_len, List.take_length] at hn ⊢
      subst hn
      refine Cd.seq ?_
      refine Cd.region ?_
      refine Ol.p (ldv one_L_api_Edge (i := 1) rfl) ?_
      refine Ol.s (stv sz_L_api_Edge (i := 1) rfl rfl) ?_
      refine Ol.nil ?_
      refine Cd.ret ⟨.slice _ _ _, retv rfl one_L_api_Edge rfl (i := 1) rfl rfl, _, .sub (.cons_cons _ (.cons _ (.cons _ (.cons _ .slnil)))), A, c, rfl, rfl⟩
end
section
theorem flow_Edges_1_ct {w : World} {e : Ed} : Ct Try.prog 36 #[e.val] w (Is (.bool true)) := by
  refine Ct.mk Try.func36 rfl rfl ?_
  refine Cd.seq ?_
  refine Cd.region ?_
  refine Ol.x bxg ?_
  rintro _ _ ⟨g1, rfl, rfl⟩
  refine Ol.p asb ?_
  refine Ol.nil ?_
  refine Cd.seq ?_
  refine Cd.region ?_
  refine Ol.p asb ?_
  refine Ol.nil ?_
  refine Cd.ret ⟨.bool _, ret1 rfl rfl, [], .nil, rfl, rfl⟩
theorem flow_Edges_ct {w : World} {f : RFun} (hf : FunAt w w.heap.size f) (hfit : Fit f) : Ct Try.prog 28 #[f.val] w (NewL 32 3 (someE f.terms fun _ => true).length (edV (someE f.terms fun _ => true))) := by
  refine Ct.mk Try.func28 rfl rfl ?_
  refine Cd.seq ?_
  refine Cd.region ?_
  refine Ol.x bxg ?_
  rintro _ _ ⟨g1, rfl, rfl⟩
  refine Ol.p ass ?_
  refine Ol.nil ?_
  refine Cd.seq ?_
  refine Cd.region ?_
  refine Ol.p (ldw ag_api_Func (i := 0) rfl rfl) ?_
  refine Ol.x (sp_call en_flow_some (fun M w' hh => flow_some_ct (g := 36) (fst := #[]) (cap := #[]) (p := fun _ => true) (hf.now hh) hfit ⟨en_flow_Edges_1, fun e he w2 h2 => flow_Edges_1_ct⟩)) ?_
  rintro _ _ ⟨_, rfl, A, c, rfl, rfl⟩
  refine Ol.p ass ?_
  refine Ol.nil ?_
  refine Cd.ret ⟨.slice _ _ _, ret1 rfl rfl, _, .sub (.cons_cons _ (.cons _ .slnil)), A, c, rfl, rfl⟩
end
end Go.Proofs.Ytbcnejobnmljlaa
