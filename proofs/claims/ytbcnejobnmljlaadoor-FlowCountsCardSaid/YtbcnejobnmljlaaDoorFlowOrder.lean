/- The law 10: FlowOrder, walked. -/
import Derived.Test.YtbcnejobnmljlaaDoorLaw10
import Derived.Test.YtbcnejobnmljlaaDoorFlowLaw
import Derived.Test.YtbcnejobnmljlaaDoorCount
namespace Go.Proofs.YtbcnejobnmljlaaDoor
set_option linter.unusedVariables false
open Go Go.RowKit
set_option maxRecDepth 100000

section
theorem place_ge {l : List Int} {n : Int} : 0 ≤ indexI (fun x => decide (x = n)) l ↔ n ∈ l := by
  have h := indexI_ge (fun x => decide (x = n)) l
  rw [← decide_eq_true_iff (p := (0 : Int) ≤ _), h, List.any_eq_true]
  simp
theorem mem_natsI {l : List Nat} {n : Nat} : (n : Int) ∈ natsI l ↔ n ∈ l := by
  simp only [natsI, List.mem_map]
  exact ⟨fun ⟨m, h, e⟩ => by have : m = n := by omega
                             rwa [← this], fun h => ⟨n, h, rfl⟩⟩
theorem place_at {l : List Nat} (hn : l.Nodup) {k x : Nat} (h : l[k]? = some x) : indexI (fun y => decide (y = (x : Int))) (natsI l) = (k : Int) := by
  have hk := (List.getElem?_eq_some_iff.1 h).1
  refine indexI_at (x := (x : Int)) (by simp [natsI, h]) (by simp) fun i y hi hy => ?_
  have hil : i < l.length := by omega
  simp only [natsI, List.getElem?_map, List.getElem?_eq_getElem hil, Option.map_some, Option.some.injEq] at hy
  subst hy
  rw [decide_eq_false_iff_not]
  intro e
  have e2 : l[i] = x := by omega
  have : i = k := (List.getElem?_inj hil hn).1 (by rw [h, List.getElem?_eq_getElem hil, e2])
  omega
theorem place_after {l : List Nat} (hn : l.Nodup) {x y : Nat} (h : After l x y) : indexI (fun z => decide (z = (x : Int))) (natsI l) < indexI (fun z => decide (z = (y : Int))) (natsI l) := by
  obtain ⟨p, q, rfl, hy⟩ := h
  obtain ⟨j, hj⟩ := List.mem_iff_getElem?.1 hy
  rw [place_at hn (k := p.length) (x := x) (by simp), place_at hn (k := p.length + (j + 1)) (x := y) (by rw [List.getElem?_append_right (by omega), Nat.add_sub_cancel_left]; simpa using hj)]
  omega
theorem order_law {ts : List Tm} (hc : closed ts = true) {e : Ed} (he : e ∈ edges ts) (h : 0 ≤ indexI (fun z => decide (z = e.src)) (natsI (orderF ts))) :
    0 ≤ indexI (fun z => decide (z = e.to)) (natsI (orderF ts)) ∧ (indexI (fun z => decide (z = e.src)) (natsI (orderF ts)) < indexI (fun z => decide (z = e.to)) (natsI (orderF ts)) ∨ 0 ≤ indexI (fun z => decide (z = e.src)) (natsI (reachedF ts [e.to] []))) := by
  obtain ⟨k, j, t, hk, hj, hs, ha⟩ := mem_edges.1 he
  have hin : e.to ∈ toAt ts k := by rw [toAt_some hk]; exact List.mem_of_getElem? hj
  have hl := toAt_lt hc hin
  have hcast : ((e.to.toNat : Nat) : Int) = e.to := by omega
  rw [place_ge, hs, mem_natsI] at h
  obtain ⟨h1, h2⟩ := order_edge hc h (y := e.to.toNat) (by rw [hcast]; exact hin)
  refine ⟨place_ge.2 (by rw [← hcast]; exact mem_natsI.2 h1), ?_⟩
  rcases h2 with h2 | h2
  · left
    have := place_after (order_nodup hc) h2
    rw [hs, ← hcast]; exact this
  · right
    rw [place_ge, hs, mem_natsI, mem_reachedF hc]
    exact ⟨e.to.toNat, by omega, by simp [hcast], h2⟩
set_option maxHeartbeats 2000000 in
theorem law10_FlowOrder_ct {w : World} {f : RFun} (hT : Tabs w w.heap.size) (hf : FunAt w w.heap.size f) (hfit : Fit f) : Ct Tryd.prog 5 #[f.val] w (Is (.bool true)) := by
  have hbl := hfit.blen
  have htl : f.terms.length = f.blocks.length := by simp [RFun.terms]
  refine Ct.mk Tryd.func5 rfl rfl ?_
  refine Cd.seq ?_
  refine Cd.region ?_
  refine Ol.x bxg ?_
  rintro _ _ ⟨g1, rfl, rfl⟩
  refine Ol.p asb ?_
  refine Ol.nil ?_
  refine Cd.seq ?_
  refine Cd.seq ?_
  refine Cd.region ?_
  refine Ol.s (cl en_law10_awake (fun M w' hh => law10_awake_ct)) ?_
  refine Ol.p noti ?_
  refine Ol.nil ?_
  refine Cd.cond rfl (fun h => by cases h) (fun _ => ?_)
  refine Cd.skip ?_
  refine Cd.seq ?_
  refine Cd.seq ?_
  refine Cd.region ?_
  refine Ol.p (ldw ag_api_Func (i := 0) rfl rfl) ?_
  refine Ol.x (sp_call en_kit_FuncOf (fun M w' hh => kit_FuncOf_ct (hf.now hh) hfit (most := 500) (by decide))) ?_
  rintro _ _ ⟨_, rfl, N, rfl, hN1, hN2, rfl⟩
  refine Ol.p gti ?_
  refine Ol.nil ?_
  refine Cd.cond rfl (fun h => ?_) (fun h => ?_)
  · refine Cd.seq ?_
    refine Cd.region ?_
    refine Ol.p asb ?_
    refine Ol.nil ?_
    refine Cd.ret ⟨.bool _, ret1 rfl rfl, [], .nil, rfl, rfl⟩
  refine Cd.skip ?_
  refine Cd.seq ?_
  refine Cd.region ?_
  refine Ol.p (ldw ag_api_Func (i := 0) rfl rfl) ?_
  refine Ol.x (sp_call en_flow_Order (fun M w' hh => flow_Order_ct (hf.now hh) hfit)) ?_
  rintro _ _ ⟨_, rfl, ⟨h0, h00, rfl, rfl⟩ | ⟨gO, kO, cO, csO, rfl, rfl, hOl, hOx⟩⟩; rotate_left
  refine Ol.p ass ?_
  refine Ol.nil ?_
  refine Cd.seq ?_
  refine Cd.seq ?_
  refine Cd.region ?_
  refine Ol.p (ldw ag_api_Func (i := 1) rfl rfl) ?_
  refine Ol.s (cl en_flow_Closed (fun M w' hh => flow_Closed_ct (hf.now hh) hfit)) ?_
  refine Ol.p noti ?_
  refine Ol.nil ?_
  refine Cd.cond rfl (fun h => ?_) (fun h => ?_)
  · have hcl : closed f.terms = false := by simpa using h
    have ho : (orderF f.terms).length = 0 := by unfold orderF; rw [hcl]; rfl
    have he : (someE f.terms fun _ => true).length = 0 := by unfold someE; rw [hcl]; rfl
    have hd : decide (((orderF f.terms).length : Int) = 0) = true := by rw [ho]; rfl
    refine Cd.seq ?_
    refine Cd.region ?_
    refine Ol.p mvs ?_
    refine Ol.p (lens sl_L_int) ?_
    refine Ol.p eqi ?_
    refine Ol.p mvb ?_
    refine Ol.gp hd (ldw ag_api_Func (i := 1) rfl rfl) ?_
    refine Ol.gx hd (sp_call en_flow_Edges (fun M' w' hh => flow_Edges_ct (hf.now hh) hfit)) ?_
    rintro _ _ ⟨_, rfl, A25, c25, rfl, rfl⟩
    refine Ol.gp hd (lens sl_L_api_Edge) ?_
    refine Ol.gp hd eqi ?_
    refine Ol.p (pkTb hd) ?_
    refine Ol.p asb ?_
    refine Ol.nil ?_
    refine Cd.ret ⟨.bool _, ret1 rfl rfl, [], .nil, ?_, rfl⟩
    rw [he]; rfl
  have hcl : closed f.terms = true := by simpa using h
  refine Cd.skip ?_
  refine Cd.seq ?_
  refine Cd.region ?_
  refine Ol.p (ldw ag_api_Func (i := 1) rfl rfl) ?_
  refine Ol.x (bsv [.int .i64 0] sl_L_int zr_int (by simp [Value.cells])) ?_
  rintro _ _ ⟨g30, rfl, rfl⟩
  refine Ol.x (sp_call en_flow_Reached (fun M w' hh => flow_Reached_ct (fr := [0]) (nt := []) (hT.now hh) (hf.now hh) hfit (Reads.row hh (i := 0) rfl) Reads.none_ (by intro n hn; simp at hn; subst hn; unfold I64; omega) (by intro n hn; cases hn) (by decide) (by decide))) ?_
  rintro _ _ ⟨_, rfl, A31, c31, rfl, rfl⟩
  refine Ol.p ass ?_
  refine Ol.nil ?_
  have hle := order_len hcl
  obtain ⟨tl, hord⟩ := order_head hcl
  have hne : (!decide (((orderF f.terms).length : Int) = ((reachedF f.terms [0] []).length : Int))) = false := by rw [hle]; simp
  have hpos : 0 < (orderF f.terms).length := by rw [hord]; simp
  have hfirst : csO[kO + 0]? = some (.int .i64 0) := hOx 0 _ (by rw [hord]; rfl)
  refine Cd.seq ?_
  refine Cd.seq ?_
  refine Cd.region ?_
  refine Ol.p mvs ?_
  refine Ol.p (lens sl_L_int) ?_
  refine Ol.p mvs ?_
  refine Ol.p (lens sl_L_int) ?_
  refine Ol.p nei ?_
  refine Ol.p mvb ?_
  refine Ol.gp hne mvs ?_
  refine Ol.gp hne (ixn1 (ix := 0) sl_L_int Som.lit (h := hpos)) ?_
  refine Ol.gp hne (ld one_int (Rd.blk (i := 2) rfl hfirst)) ?_
  refine Ol.gp hne nei ?_
  refine Ol.p (pkFb hne) ?_
  refine Ol.nil ?_
  refine Cd.cond rfl (fun h => by cases h) (fun _ => ?_)
  refine Cd.skip ?_
  refine Cd.seq ?_
  refine Cd.seq ?_
  refine Cd.region ?_
  refine Ol.p asi ?_
  refine Ol.nil ?_
  obtain ⟨L0, hL0⟩ : ∃ L0, L0 = [row (.slice A31 (reachedF f.terms [0] []).length c31) 3 1 (reachedF f.terms [0] []).length (intsN (reachedF f.terms [0] [])), row (.slice (some ⟨g30, 0, none⟩) 1 1) 3 1 1 [.int .i64 0], blk gO (.cells csO 3), blk g1 (.cells f.cells.toArray 38)] := ⟨_, rfl⟩
  have hrl : (reachedF f.terms [0] []).length < 2 ^ 62 := by
    have : (reachedF f.terms [0] []).length ≤ 1024 := by unfold reachedF; rw [hcl, cond_true]; exact listS_len_le _
    omega
  have hol : (orderF f.terms).length < 2 ^ 62 := by omega
  refine Cd.block ?_
  refine Cd.loop (fun m σ L => ∃ k, m = (reachedF f.terms [0] []).length - k ∧ k ≤ (reachedF f.terms [0] []).length ∧ Has σ [(1, .pointer (some ⟨g1, 0, none⟩)), (3, .slice (some ⟨gO, kO, none⟩) (orderF f.terms).length cO), (4, .slice A31 (reachedF f.terms [0] []).length c31), (5, .int .i64 k)] ∧ L = L0) (n := (reachedF f.terms [0] []).length) ⟨0, rfl, Nat.zero_le _, ⟨rfl, rfl, rfl, rfl, trivial⟩, hL0.symm⟩ ?_
  rintro _ σ L ⟨k, rfl, hk, hs, rfl⟩
  refine Cd.has hs ?_
  refine Cd.seq ?_
  refine Cd.seq ?_
  refine Cd.region ?_
  refine Ol.p mvi ?_
  refine Ol.p mvs ?_
  refine Ol.p (lens sl_L_int) ?_
  refine Ol.p lsi ?_
  refine Ol.nil ?_
  refine Cd.cond rfl (fun h => ?_) (fun h => ?_)
  · have hlt : k < (reachedF f.terms [0] []).length := by simpa using h
    obtain ⟨r, hr⟩ : ∃ r, (reachedF f.terms [0] [])[k]? = some r := ⟨_, List.getElem?_eq_getElem hlt⟩
    have hrv : (intsN (reachedF f.terms [0] []))[k]? = some (.int .i64 (r : Int)) := by simp [intsN, hr]
    subst hL0
    refine Cd.skip ?_
    refine Cd.seq ?_
    refine Cd.block ?_
    refine Cd.seq ?_
    refine Cd.region ?_
    refine Ol.p mvs ?_
    refine Ol.p mvs ?_
    refine Ol.p mvi ?_
    refine Ol.p (ixn1 (ix := k) sl_L_int (Som.row (i := 0) rfl (by omega))) ?_
    refine Ol.p (ld one_int (Rd.row (i := 0) rfl hrv)) ?_
    refine Ol.s (cl en_law10_place (fun M w' hh => law10_place_nat (l := orderF f.terms) (n := (r : Int)) (Reads.blk hh (i := 2) rfl hOl hOx) hol)) ?_
    refine Ol.p lsi ?_
    refine Ol.nil ?_
    have hin : 0 ≤ indexI (fun x => decide (x = (r : Int))) (natsI (orderF f.terms)) := place_ge.2 (mem_natsI.2 ((order_reached hcl r).2 (List.mem_of_getElem? hr)))
    refine Cd.cond rfl (fun h2 => ?_) (fun h2 => ?_)
    · simp only [decide_eq_true_eq] at h2
      omega
    · refine Cd.skip ?_
      refine Cd.region ?_
      refine Ol.p mvi ?_
      refine Ol.p addi ?_
      refine Ol.p asi ?_
      refine Ol.nil ?_
      exact ⟨(reachedF f.terms [0] []).length - (k + 1), by omega, k + 1, rfl, by omega, ⟨rfl, rfl, rfl, rfl, trivial⟩, rfl⟩
  · subst hL0
    refine Cd.exit (id := 0) ?_
    refine Cd.seq ?_
    refine Cd.region ?_
    refine Ol.p (ldw ag_api_Func (i := 3) rfl rfl) ?_
    refine Ol.x (sp_call en_flow_Edges (fun M' w' hh => flow_Edges_ct (hf.now hh) hfit)) ?_
    rintro _ _ ⟨_, rfl, A6, c6, rfl, rfl⟩
    refine Ol.p ass ?_
    refine Ol.nil ?_
    have hse : (someE f.terms fun _ => true) = edges f.terms := by unfold someE; rw [hcl, cond_true]; simp
    rw [hse]
    refine Cd.seq ?_
    refine Cd.seq ?_
    refine Cd.region ?_
    refine Ol.p asi ?_
    refine Ol.nil ?_
    obtain ⟨L1, hL1⟩ : ∃ L1, L1 = [row (.slice A6 (edges f.terms).length c6) 47 3 (edges f.terms).length (edV (edges f.terms)), row (.slice A31 (reachedF f.terms [0] []).length c31) 3 1 (reachedF f.terms [0] []).length (intsN (reachedF f.terms [0] [])), row (.slice (some ⟨g30, 0, none⟩) 1 1) 3 1 1 [.int .i64 0], blk gO (.cells csO 3), blk g1 (.cells f.cells.toArray 38)] := ⟨_, rfl⟩
    have hel : (edges f.terms).length < 2 ^ 62 := by
      have := edgesTo_len_le f.terms f.terms.length
      have := (closed_le hcl).2
      unfold edges; omega
    refine Cd.block ?_
    refine Cd.loop (fun m σ L => ∃ k, m = (edges f.terms).length - k ∧ k ≤ (edges f.terms).length ∧ Has σ [(1, .pointer (some ⟨g1, 0, none⟩)), (3, .slice (some ⟨gO, kO, none⟩) (orderF f.terms).length cO), (6, .slice A6 (edges f.terms).length c6), (7, .int .i64 k)] ∧ L = L1) (n := (edges f.terms).length) ⟨0, rfl, Nat.zero_le _, ⟨rfl, rfl, rfl, rfl, trivial⟩, hL1.symm⟩ ?_
    rintro _ σ L ⟨k, rfl, hk, hs, rfl⟩
    refine Cd.has hs ?_
    refine Cd.seq ?_
    refine Cd.seq ?_
    refine Cd.region ?_
    refine Ol.p mvi ?_
    refine Ol.p mvs ?_
    refine Ol.p (lens sl_L_api_Edge) ?_
    refine Ol.p lsi ?_
    refine Ol.nil ?_
    refine Cd.cond rfl (fun h => ?_) (fun h => ?_)
    · have hlt : k < (edges f.terms).length := by simpa using h
      obtain ⟨e, he⟩ : ∃ e, (edges f.terms)[k]? = some e := ⟨_, List.getElem?_eq_getElem hlt⟩
      have hsrc : (edV (edges f.terms))[k * 3 + 0]? = some (.int .i64 e.src) := by unfold edV; rw [flat_get Ed.len _ _ _ _ he (by omega)]; rfl
      have hto : (edV (edges f.terms))[k * 3 + 2]? = some (.int .i64 e.to) := by unfold edV; rw [flat_get Ed.len _ _ _ _ he (by omega)]; rfl
      subst hL1
      refine Cd.skip ?_
      refine Cd.seq ?_
      refine Cd.block ?_
      refine Cd.seq ?_
      refine Cd.draw mixed 16 (exIs (fun opNo => match opNo with | 6 => some (.int .i64 (indexI (fun x => decide (x = e.src)) (natsI (orderF f.terms)))) | 13 => some (.int .i64 (indexI (fun x => decide (x = e.to)) (natsI (orderF f.terms)))) | _ => none)) (fun _ => []) (by kernel_rfl) exIs_in (fun u hu => ?_)
      refine Wk.p mvs ?_
      refine Wk.p mvs ?_
      refine Wk.p mvi ?_
      refine Wk.p (ixn (ix := k) sl_L_api_Edge (Som.row (i := 0) rfl (by omega))) ?_
      refine Wk.p (fdp fd_api_Edge_0) ?_
      refine Wk.p (ld one_int (Rd.row (i := 0) rfl hsrc)) ?_
      refine Wk.dk hu (sp_call en_law10_place (fun M w' hh => law10_place_nat (l := orderF f.terms) (n := e.src) (Reads.blk hh (i := 3) rfl hOl hOx) hol)) ?_
      refine Wk.p mvs ?_
      refine Wk.p mvs ?_
      refine Wk.p mvi ?_
      refine Wk.p (ixn (ix := k) sl_L_api_Edge (Som.row (i := 0) rfl (by omega))) ?_
      refine Wk.p (fdp fd_api_Edge_2) ?_
      refine Wk.p (ld one_int (Rd.row (i := 0) rfl hto)) ?_
      refine Wk.dk hu (sp_call en_law10_place (fun M w' hh => law10_place_nat (l := orderF f.terms) (n := e.to) (Reads.blk hh (i := 3) rfl hOl hOx) hol)) ?_
      refine Wk.p asi ?_
      refine Wk.p asi ?_
      refine Wk.nil ?_
      rw [needs_exIs hu rfl]
      refine Ol.nil ?_
      have hem := List.mem_of_getElem? he
      have hei := edge_i64 hfit hem
      refine Cd.seq ?_
      cases hA : decide (0 ≤ indexI (fun x => decide (x = e.src)) (natsI (orderF f.terms))) with
      | false =>
        refine Cd.draw mixed 28 (fun _ => none) (fun _ => []) (by kernel_rfl) (fun _ _ h => by cases h) (fun u hu => ?_)
        refine Wk.p mvi ?_
        refine Wk.p gei ?_
        refine Wk.p mvb ?_
        refine Wk.gn hA ?_
        refine Wk.gn hA ?_
        refine Wk.gn hA ?_
        refine Wk.gu ?_
        refine Wk.gu ?_
        refine Wk.gu ?_
        refine Wk.gu ?_
        refine Wk.gu ?_
        refine Wk.gu ?_
        refine Wk.gu ?_
        refine Wk.gu ?_
        refine Wk.gu ?_
        refine Wk.gu ?_
        refine Wk.gu ?_
        refine Wk.gu ?_
        refine Wk.gu ?_
        refine Wk.gu ?_
        refine Wk.gu ?_
        refine Wk.gu ?_
        refine Wk.gu ?_
        refine Wk.gu ?_
        refine Wk.gu ?_
        refine Wk.gu ?_
        refine Wk.gn hA ?_
        refine Wk.p (pkFb hA) ?_
        refine Wk.nil ?_
        refine Ol.nil ?_
        refine Cd.cond rfl (fun h2 => by cases h2) (fun h2 => ?_)
        refine Cd.skip ?_
        refine Cd.region ?_
        refine Ol.p mvi ?_
        refine Ol.p addi ?_
        refine Ol.p asi ?_
        refine Ol.nil ?_
        exact ⟨(edges f.terms).length - (k + 1), by omega, k + 1, rfl, by omega, ⟨rfl, rfl, rfl, rfl, trivial⟩, rfl⟩
      | true =>
        obtain ⟨hB, hlaw⟩ := order_law hcl hem (by simpa using hA)
        have hB' : decide (indexI (fun x => decide (x = e.to)) (natsI (orderF f.terms)) < 0) = false := by simp; exact hB
        cases hC : decide (indexI (fun x => decide (x = e.to)) (natsI (orderF f.terms)) ≤ indexI (fun x => decide (x = e.src)) (natsI (orderF f.terms))) with
        | false =>
          refine Cd.draw mixed 28 (fun _ => none) (fun _ => []) (by kernel_rfl) (fun _ _ h => by cases h) (fun u hu => ?_)
          refine Wk.p mvi ?_
          refine Wk.p gei ?_
          refine Wk.p mvb ?_
          refine Wk.gp hA mvi ?_
          refine Wk.gp hA lsi ?_
          refine Wk.gp hA mvb ?_
          refine Wk.gp hB' mvi ?_
          refine Wk.gp hB' mvi ?_
          refine Wk.gp hB' lei ?_
          refine Wk.gp hB' mvb ?_
          refine Wk.gn hC ?_
          refine Wk.gn hC ?_
          refine Wk.gn hC ?_
          refine Wk.gn hC ?_
          refine Wk.gn hC ?_
          refine Wk.gn hC ?_
          refine Wk.gn hC ?_
          refine Wk.gn hC ?_
          refine Wk.gn hC ?_
          refine Wk.gn hC ?_
          refine Wk.gn hC ?_
          refine Wk.gn hC ?_
          refine Wk.gn hC ?_
          refine Wk.gn hC ?_
          refine Wk.gn hC ?_
          refine Wk.gp hB' (pkFb hC) ?_
          refine Wk.gp hA (pkFb hB') ?_
          refine Wk.p (pkTb hA) ?_
          refine Wk.nil ?_
          refine Ol.nil ?_
          refine Cd.cond rfl (fun h2 => by cases h2) (fun h2 => ?_)
          refine Cd.skip ?_
          refine Cd.region ?_
          refine Ol.p mvi ?_
          refine Ol.p addi ?_
          refine Ol.p asi ?_
          refine Ol.nil ?_
          exact ⟨(edges f.terms).length - (k + 1), by omega, k + 1, rfl, by omega, ⟨rfl, rfl, rfl, rfl, trivial⟩, rfl⟩
        | true =>
          have hrl2 : (reachedF f.terms [e.to] []).length < 2 ^ 62 := by
            have : (reachedF f.terms [e.to] []).length ≤ 1024 := by unfold reachedF; rw [hcl, cond_true]; exact listS_len_le _
            omega
          have hD : decide (indexI (fun x => decide (x = e.src)) (natsI (reachedF f.terms [e.to] [])) < 0) = false := by
            have : indexI (fun x => decide (x = e.to)) (natsI (orderF f.terms)) ≤ indexI (fun x => decide (x = e.src)) (natsI (orderF f.terms)) := by simpa using hC
            rcases hlaw with h3 | h3
            · omega
            · simp; exact h3
          refine Cd.draw mixed 28 (fun q => match q with | 16 => some (NewSv 3 1 1 1 [.int .i64 e.to]) | 17 => some (NewL 3 1 (reachedF f.terms [e.to] []).length (intsN (reachedF f.terms [e.to] []))) | 23 => some (Is (.int .i64 (indexI (fun x => decide (x = e.src)) (natsI (reachedF f.terms [e.to] []))))) | _ => none) (fun q => match q with | 17 => [16] | 23 => [17] | _ => []) (by kernel_rfl) (by intro q V h; split at h <;> cases h; exact ⟨_, _, 0, rfl, rfl⟩; exact ⟨_, _, none, 0, rfl, rfl⟩; exact ⟨_, [], rfl, rfl⟩) (fun u hu => ?_)
          refine Wk.p mvi ?_
          refine Wk.p gei ?_
          refine Wk.p mvb ?_
          refine Wk.gp hA mvi ?_
          refine Wk.gp hA lsi ?_
          refine Wk.gp hA mvb ?_
          refine Wk.gp hB' mvi ?_
          refine Wk.gp hB' mvi ?_
          refine Wk.gp hB' lei ?_
          refine Wk.gp hB' mvb ?_
          refine Wk.gp hC (ldw ag_api_Func (i := 4) rfl rfl) ?_
          refine Wk.gp hC mvs ?_
          refine Wk.gp hC mvi ?_
          refine Wk.gp hC (ixn (ix := k) sl_L_api_Edge (Som.row (i := 0) rfl (by omega))) ?_
          refine Wk.gp hC (fdp fd_api_Edge_2) ?_
          refine Wk.gp hC (ld one_int (Rd.row (i := 0) rfl hto)) ?_
          refine Wk.gx hu hC (NewS.adds (bsv [.int .i64 e.to] sl_L_int zr_int (by simp [Value.cells]))) ?_
          rintro _ _ hu16 ⟨g16, rfl, rfl⟩
          refine Wk.gxn hu hC (l := [16]) rfl (by simp) (sp_call en_flow_Reached (fun M' w' hh => flow_Reached_ct (fr := [e.to]) (nt := []) (hT.now hh) (hf.now hh) hfit (by rw [needs_cons hu16] at hh; exact Reads.row hh (i := 0) rfl) Reads.none_ (by intro n hn; simp at hn; subst hn; unfold I64; omega) (by intro n hn; cases hn) (by simp) (by decide))) ?_
          rintro _ _ hu17 ⟨A17, c17, rfl, rfl⟩
          refine Wk.gp hC mvs ?_
          refine Wk.gp hC mvi ?_
          refine Wk.gp hC (ixn (ix := k) sl_L_api_Edge (Som.row (i := 0) rfl (by omega))) ?_
          refine Wk.gp hC (fdp fd_api_Edge_0) ?_
          refine Wk.gp hC (ld one_int (Rd.row (i := 0) rfl hsrc)) ?_
          refine Wk.gxn hu hC (l := [17]) rfl (by simp) (sp_call en_law10_place (fun M' w' hh => law10_place_nat (l := reachedF f.terms [e.to] []) (n := e.src) (by rw [needs_cons hu17] at hh; exact Reads.row hh (i := 0) rfl) hrl2)) ?_
          rintro _ _ hu23 ⟨rfl, rfl⟩
          refine Wk.gp hC lsi ?_
          refine Wk.gp hB' (pkTb hC) ?_
          refine Wk.gp hA (pkFb hB') ?_
          refine Wk.p (pkTb hA) ?_
          refine Wk.nil ?_
          rw [needs_cons hu23, needs_cons hu17, needs_cons hu16, needs_none]
          refine Ol.keep (.sub (.cons _ (.cons _ (List.Sublist.refl _)))) ?_
          refine Ol.nil ?_
          refine Cd.cond rfl (fun h2 => by rw [hD] at h2; cases h2) (fun h2 => ?_)
          refine Cd.skip ?_
          refine Cd.region ?_
          refine Ol.p mvi ?_
          refine Ol.p addi ?_
          refine Ol.p asi ?_
          refine Ol.nil ?_
          exact ⟨(edges f.terms).length - (k + 1), by omega, k + 1, rfl, by omega, ⟨rfl, rfl, rfl, rfl, trivial⟩, rfl⟩
    · subst hL1
      refine Cd.exit (id := 2) ?_
      refine Cd.seq ?_
      refine Cd.region ?_
      refine Ol.p asb ?_
      refine Ol.nil ?_
      exact Cd.ret ⟨.bool _, ret1 rfl rfl, [], .nil, rfl, rfl⟩
  have ho : (orderF f.terms).length = 0 := h0
  have hcl : closed f.terms = false := by
    cases hc : closed f.terms with
    | false => rfl
    | true =>
      obtain ⟨tl, ht⟩ := order_head hc
      rw [ht] at h0; simp at h0
  refine Ol.p ass ?_
  refine Ol.nil ?_
  refine Cd.seq ?_
  refine Cd.seq ?_
  refine Cd.region ?_
  refine Ol.p (ldw ag_api_Func (i := 0) rfl rfl) ?_
  refine Ol.s (cl en_flow_Closed (fun M w' hh => flow_Closed_ct (hf.now hh) hfit)) ?_
  refine Ol.p noti ?_
  refine Ol.nil ?_
  refine Cd.cond rfl (fun h => ?_) (fun h => by rw [hcl] at h; cases h)
  have he : (someE f.terms fun _ => true).length = 0 := by unfold someE; rw [hcl]; rfl
  have hd : decide (((0 : Nat) : Int) = 0) = true := rfl
  refine Cd.seq ?_
  refine Cd.region ?_
  refine Ol.p mvs ?_
  refine Ol.p (lens sl_L_int) ?_
  refine Ol.p eqi ?_
  refine Ol.p mvb ?_
  refine Ol.gp rfl (ldw ag_api_Func (i := 0) rfl rfl) ?_
  refine Ol.gx rfl (sp_call en_flow_Edges (fun M' w' hh => flow_Edges_ct (hf.now hh) hfit)) ?_
  rintro _ _ ⟨_, rfl, A25, c25, rfl, rfl⟩
  refine Ol.gp rfl (lens sl_L_api_Edge) ?_
  refine Ol.gp rfl eqi ?_
  refine Ol.p (pkTb rfl) ?_
  refine Ol.p asb ?_
  refine Ol.nil ?_
  refine Cd.ret ⟨.bool _, ret1 rfl rfl, [], .nil, ?_, rfl⟩
  rw [he]; rfl
end
