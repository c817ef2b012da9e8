/- The law 11: DomWay, walked. -/
import Derived.Test.YtbcnejobnmljlaaLaw11
import Derived.Test.YtbcnejobnmljlaaCount
import Derived.Test.YtbcnejobnmljlaaCountsLaw
import Derived.Test.YtbcnejobnmljlaaPick
namespace Go.Proofs.Ytbcnejobnmljlaa
set_option linter.unusedVariables false
open Go Go.RowKit
set_option maxRecDepth 100000

theorem meet_ex {G : Gra} {U : Nat → Int} (ht : Tr G U) : ∀ (n a b : Nat), G.pl a + G.pl b < n → Pr U a → Pr U b → ∃ m, Meet U a b m
  | 0, a, b, h, _, _ => by omega
  | n + 1, a, b, h, ha, hb => by
    by_cases e : a = b
    · subst e; exact ⟨a, Meet.same⟩
    · rcases Nat.lt_trichotomy (G.pl a) (G.pl b) with hl | hl | hl
      · have h0 : 0 ≤ U b := by
          rcases hb with e | e
          · rw [e, G.pl0] at hl; omega
          · exact e
        have hup := ht.up b h0
        obtain ⟨m, hm⟩ := meet_ex ht n a (U b).toNat (by have := hup.2.2.1; omega) ha hup.2.2.2
        exact ⟨m, Meet.right ht h0 hl hm⟩
      · exact absurd (G.inj a b (ha.reached ht) (hb.reached ht) hl) e
      · have h0 : 0 ≤ U a := by
          rcases ha with e | e
          · rw [e, G.pl0] at hl; omega
          · exact e
        have hup := ht.up a h0
        obtain ⟨m, hm⟩ := meet_ex ht n (U a).toNat b (by have := hup.2.2.1; omega) hup.2.2.2 hb
        exact ⟨m, Meet.left ht h0 hl hm⟩
section
theorem overF_upw {ts : List Tm} (hc : closed ts = true) (hd : DomU ts (domL ts)) {a b : Int} : overF ts a b = true ↔ ∃ x y : Nat, a = (x : Int) ∧ b = (y : Int) ∧ y ∈ orderF ts ∧ Upw (asU (domL ts)) x y := by
  rw [overF_iff hc hd]
  constructor
  · rintro ⟨x, y, h1, h2, h3, h4⟩
    exact ⟨x, y, h1, h2, h3, ((hd.2 hc).dom x y h3).2 h4⟩
  · rintro ⟨x, y, h1, h2, h3, h4⟩
    exact ⟨x, y, h1, h2, h3, ((hd.2 hc).dom x y h3).1 h4⟩
theorem both_spec {ts : List Tm} (hc : closed ts = true) (hd : DomU ts (domL ts)) (a b : Int) : (bothF ts a b = -1 ∧ ∀ d, ¬ (overF ts d a = true ∧ overF ts d b = true)) ∨
    ∃ m : Nat, bothF ts a b = (m : Int) ∧ m < ts.length ∧ overF ts (m : Int) a = true ∧ overF ts (m : Int) b = true ∧ ∀ d, overF ts d a = true → overF ts d b = true → overF ts d (m : Int) = true := by
  have F := hd.2 hc
  cases hin : inP (plL ts) a && inP (plL ts) b with
  | false =>
    left
    unfold bothF
    rw [hin, Bool.and_false]
    refine ⟨rfl, ?_⟩
    rintro d ⟨h1, h2⟩
    rw [overF_upw hc hd] at h1 h2
    obtain ⟨_, y, _, hy, hyo, _⟩ := h1
    obtain ⟨_, z, _, hz, hzo, _⟩ := h2
    rw [(inP_iff hc).2 ⟨y, hy, hyo⟩, (inP_iff hc).2 ⟨z, hz, hzo⟩] at hin
    cases hin
  | true =>
    right
    obtain ⟨x, rfl, hxo⟩ := (inP_iff hc).1 (Bool.and_eq_true_iff.1 hin).1
    obtain ⟨y, rfl, hyo⟩ := (inP_iff hc).1 (Bool.and_eq_true_iff.1 hin).2
    obtain ⟨m, hm⟩ := meet_ex F.tr _ x y (Nat.lt_succ_self _) (F.all x hxo) (F.all y hyo)
    have hmo : m ∈ orderF ts := (hm.1.pr F.tr (F.all x hxo)).reached F.tr
    refine ⟨m, ?_, order_lt hc hmo, (overF_upw hc hd).2 ⟨m, x, rfl, rfl, hxo, hm.1⟩, (overF_upw hc hd).2 ⟨m, y, rfl, rfl, hyo, hm.2.1⟩, fun d h1 h2 => ?_⟩
    · unfold bothF
      rw [hc, hin, Bool.true_and, cond_true, Int.toNat_natCast, Int.toNat_natCast, hm.eps F.tr (F.all x hxo)]
    · rw [overF_upw hc hd] at h1 h2 ⊢
      obtain ⟨d1, x1, e1, e2, _, h3⟩ := h1
      obtain ⟨d2, y1, e3, e4, _, h4⟩ := h2
      have i1 : x1 = x := by omega
      have i2 : y1 = y := by omega
      have i3 : d2 = d1 := by omega
      subst i1 i2 i3
      exact ⟨d2, m, e1, rfl, hmo, hm.2.2 d2 h3 h4⟩
end
section
set_option maxHeartbeats 4000000 in
theorem law11_DomWay_ct {w : World} {f : RFun} {Aw : Option Addr} {cw : Nat} {way : List Int} {a b : Int} (hf : FunAt w w.heap.size f) (hfit : Fit f) (hw : Reads w w.heap.size 1 Aw way.length (ints way)) (hwi : ∀ n ∈ way, I64 n) (hwl : way.length < 2 ^ 60)
    (ha : I64 a) (hb : I64 b) : Ct Try.prog 3 #[f.val, .slice Aw way.length cw, .int .i64 a, .int .i64 b] w (Is (.bool true)) := by
  have hbl := hfit.blen
  unfold I64 at ha hb
  have htl : f.terms.length = f.blocks.length := by simp [RFun.terms]
  refine Ct.mk Try.func3 rfl rfl ?_
  refine Cd.seq ?_
  refine Cd.region ?_
  refine Ol.x bxg ?_
  rintro _ _ ⟨g4, rfl, rfl⟩
  refine Ol.p asb ?_
  refine Ol.nil ?_
  refine Cd.seq ?_
  refine Cd.seq ?_
  refine Cd.region ?_
  refine Ol.s (cl en_law11_awake (fun M w' hh => law11_awake_ct)) ?_
  refine Ol.p noti ?_
  refine Ol.nil ?_
  refine Cd.cond rfl (fun h => by cases h) (fun h => ?_)   -- $18
  refine Cd.skip ?_
  refine Cd.seq ?_
  refine Cd.mid (fun σ' L' => ∃ q : Bool, (q = false → closed f.terms = true ∧ way.length ≤ 60) ∧ Has σ' [(1, .slice Aw way.length cw), (2, .int .i64 a), (3, .int .i64 b), (4, .pointer (some ⟨g4, 0, none⟩)), (31, .bool q)] ∧ [blk g4 (.cells f.cells.toArray 25)] = L') ?_ ?_
  · skip
    refine Cd.region ?_
    refine Ol.p (ldw ag_api_Func (i := 0) rfl rfl) ?_
    refine Ol.x (sp_call en_kit_FuncOf (fun M w' hh => kit_FuncOf_ct (hf.now hh) hfit (most := 120) (by decide))) ?_
    rintro _ _ ⟨_, rfl, N, rfl, hN1, hN2, rfl⟩
    cases h3 : decide ((120 : Int) < (N : Int)) with
    | true =>
      refine Ol.p gti ?_
      refine Ol.p mvb ?_
      refine Ol.gn h3 ?_
      refine Ol.gn h3 ?_
      refine Ol.gn h3 ?_
      refine Ol.p (pkTb h3) ?_
      refine Ol.p mvb ?_
      refine Ol.gn rfl ?_
      refine Ol.gn rfl ?_
      refine Ol.gn rfl ?_
      refine Ol.p (pkTb rfl) ?_
      refine Ol.nil ?_
      exact ⟨true, fun h => (by cases h), ⟨rfl, rfl, rfl, rfl, rfl, trivial⟩, rfl⟩
    | false =>
      cases hc : closed f.terms with
      | false =>
        have hg8 : (!closed f.terms) = true := by rw [hc]; rfl
        refine Ol.p gti ?_
        refine Ol.p mvb ?_
        refine Ol.gp h3 (ldw ag_api_Func (i := 0) rfl rfl) ?_
        refine Ol.gs h3 (cl en_flow_Closed (fun M w' hh => flow_Closed_ct (hf.now hh) hfit)) ?_
        refine Ol.gp h3 noti ?_
        refine Ol.p (pkFb h3) ?_
        refine Ol.p mvb ?_
        refine Ol.gn hg8 ?_
        refine Ol.gn hg8 ?_
        refine Ol.gn hg8 ?_
        refine Ol.p (pkTb hg8) ?_
        refine Ol.nil ?_
        exact ⟨true, fun h => (by cases h), ⟨rfl, rfl, rfl, rfl, rfl, trivial⟩, rfl⟩
      | true =>
        have hg8 : (!closed f.terms) = false := by rw [hc]; rfl
        refine Ol.p gti ?_
        refine Ol.p mvb ?_
        refine Ol.gp h3 (ldw ag_api_Func (i := 0) rfl rfl) ?_
        refine Ol.gs h3 (cl en_flow_Closed (fun M w' hh => flow_Closed_ct (hf.now hh) hfit)) ?_
        refine Ol.gp h3 noti ?_
        refine Ol.p (pkFb h3) ?_
        refine Ol.p mvb ?_
        refine Ol.gp hg8 mvs ?_
        refine Ol.gp hg8 (lens sl_L_int) ?_
        refine Ol.gp hg8 gti ?_
        refine Ol.p (pkFb hg8) ?_
        refine Ol.nil ?_
        exact ⟨_, fun h => ⟨rfl, by simp only [decide_eq_false_iff_not] at h; omega⟩, ⟨rfl, rfl, rfl, rfl, rfl, trivial⟩, rfl⟩
  rintro σ' _ ⟨q, hq, hs', rfl⟩
  refine Cd.has hs' ?_
  refine Cd.cond rfl (fun h => ?_) (fun h => ?_)   -- $31
  · refine Cd.seq ?_
    refine Cd.region ?_
    refine Ol.p asb ?_
    refine Ol.nil ?_
    exact Cd.ret ⟨.bool _, ret1 rfl rfl, [], .nil, rfl, rfl⟩
  obtain ⟨hcl, hw60⟩ := hq h
  clear hq h hs'
  obtain ⟨hn0, hn200⟩ := closed_le hcl
  refine Cd.skip ?_
  refine Cd.seq ?_
  refine Cd.region ?_
  refine Ol.x (bsv [.int .i64 0] sl_L_int zr_int (by simp [Value.cells])) ?_
  rintro _ _ ⟨gG, rfl, rfl⟩
  refine Ol.p ass ?_
  refine Ol.nil ?_
  refine Cd.seq ?_
  refine Cd.region ?_
  refine Ol.p asi ?_
  refine Ol.nil ?_
  have hd : DomU f.terms (domL f.terms) := domL_ex hcl
  have F := hd.2 hcl
  obtain ⟨L0, hL0⟩ : ∃ L0, L0 = [blk g4 (.cells f.cells.toArray 25)] := ⟨_, rfl⟩
  refine Cd.mid (fun σ' L' => Has σ' [(2, .int .i64 a), (3, .int .i64 b), (4, .pointer (some ⟨g4, 0, none⟩))] ∧ L0 = L') ?_ ?_
  · refine Cd.seq ?_
    refine Cd.region ?_
    refine Ol.p asi ?_
    refine Ol.nil ?_
    refine Cd.block ?_   -- 0
    refine Cd.loop (fun m σ L => ∃ (k : Nat) (A : Option Addr) (c at_ : Nat) (gn : List Nat), m = way.length - k ∧ k ≤ way.length ∧ gn.length = k + 1 ∧ at_ ∈ orderF f.terms ∧ (∀ d, d ∉ gn → Av (gra f.terms hcl) d at_) ∧ Has σ [(1, .slice Aw way.length cw), (2, .int .i64 a), (3, .int .i64 b), (4, .pointer (some ⟨g4, 0, none⟩)), (9, .slice A gn.length c), (10, .int .i64 at_), (11, .int .i64 k)] ∧
      row (.slice A gn.length c) 3 1 gn.length (intsN gn) :: L0 = L) (n := way.length) ⟨0, some ⟨gG, 0, none⟩, 1, 0, [0], rfl, Nat.zero_le _, rfl, order_zero hcl, fun d hd => .zero (by simpa using hd), ⟨rfl, rfl, rfl, rfl, rfl, rfl, rfl, trivial⟩, by rw [hL0]; rfl⟩ ?_
    rintro _ σ L ⟨k, A, c, at_, gn, rfl, hk, hgl, hao, hav, hs, rfl⟩
    refine Cd.has hs ?_
    refine Cd.seq ?_
    refine Cd.seq ?_
    refine Cd.region ?_
    refine Ol.p mvi ?_
    refine Ol.p mvs ?_
    refine Ol.p (lens sl_L_int) ?_
    refine Ol.p lsi ?_
    refine Ol.nil ?_
    refine Cd.cond rfl (fun h => ?_) (fun h => ?_)   -- $36
    · have hlt : k < way.length := by simpa using h
      obtain ⟨wv, hwv⟩ : ∃ wv, way[k]? = some wv := ⟨_, List.getElem?_eq_getElem hlt⟩
      obtain ⟨E, hE⟩ : ∃ E, E = someE f.terms (fun e => decide (e.src = (at_ : Int))) := ⟨_, rfl⟩
      have hE4 : E.length ≤ 400 := by rw [hE]; exact someE_len_le _ _
      refine Cd.skip ?_
      refine Cd.seq ?_
      refine Cd.block ?_   -- 1
      refine Cd.seq ?_
      rw [hL0]
      refine Cd.region ?_
      refine Ol.p (ldw ag_api_Func (i := 1) rfl rfl) ?_
      refine Ol.p mvi ?_
      refine Ol.x (sp_call en_flow_From (fun M w' hh => flow_From_ct (b := (at_ : Int)) (hf.now hh) hfit)) ?_
      rintro _ _ ⟨_, rfl, A41, c41, rfl, rfl⟩
      refine Ol.p ass ?_
      refine Ol.nil ?_
      rw [← hE]
      refine Cd.seq ?_
      refine Cd.seq ?_
      refine Cd.region ?_
      refine Ol.p mvs ?_
      refine Ol.p (lens sl_L_api_Edge) ?_
      refine Ol.p eqi ?_
      refine Ol.nil ?_
      refine Cd.cond rfl (fun h2 => ?_) (fun h2 => ?_)   -- $44
      · refine Cd.keep (.sub (.cons _ (.cons _ (List.Sublist.refl _)))) ?_
        refine Cd.exit (id := 0) ?_
        exact ⟨⟨rfl, rfl, rfl, trivial⟩, rfl⟩
      have hE0 : 0 < E.length := by
        have : ¬ (E.length : Int) = 0 := by simpa using h2
        omega
      obtain ⟨e, he⟩ : ∃ e, E[pickF wv E.length]? = some e := ⟨_, List.getElem?_eq_getElem (pickF_lt hE0)⟩
      have hem : e ∈ E := List.mem_of_getElem? he
      have hedge : e ∈ edges f.terms ∧ e.src = (at_ : Int) := by
        rw [hE] at hem
        unfold someE at hem
        rw [hcl, cond_true, List.mem_filter] at hem
        exact ⟨hem.1, by simpa using hem.2⟩
      have hto := (closed_len hcl).2.2 e hedge.1
      obtain ⟨nx, hnx⟩ : ∃ nx : Nat, e.to = (nx : Int) := ⟨e.to.toNat, by omega⟩
      have hstep : (nx : Int) ∈ toAt f.terms at_ := by
        obtain ⟨k', j, t, hk', hj, h5, h6⟩ := mem_edges.1 hedge.1
        have : k' = at_ := by omega
        subst this
        rw [toAt_some hk', ← hnx]
        exact List.mem_of_getElem? hj
      have hnxo : nx ∈ orderF f.terms := order_edge' hcl hao hstep
      have htov : (edV E)[pickF wv E.length * 3 + 2]? = some (.int .i64 (nx : Int)) := edV_get he (by rw [← hnx]; rfl)
      refine Cd.skip ?_
      refine Cd.seq ?_
      refine Cd.region ?_
      refine Ol.p mvs ?_
      refine Ol.p mvs ?_
      refine Ol.p mvi ?_
      refine Ol.p (ixn1 (ix := k) sl_L_int (Som.slc hw (by omega))) ?_
      refine Ol.p (ld one_int (Rd.slc hw (ints_get' hwv))) ?_
      refine Ol.p mvs ?_
      refine Ol.p (lens sl_L_api_Edge) ?_
      refine Ol.s (cl en_kit_Pick (fun M w' hh => kit_Pick_ct (x := wv) (n := E.length) hE0 (by omega))) ?_
      refine Ol.p (ixn (ix := pickF wv E.length) sl_L_api_Edge (Som.row (i := 0) rfl hE0) (h := pickF_lt hE0)) ?_
      refine Ol.p (fdp fd_api_Edge_2) ?_
      refine Ol.p (ld one_int (Rd.row (i := 0) rfl htov)) ?_
      refine Ol.p asi ?_
      refine Ol.nil ?_
      refine Cd.seq ?_
      refine Cd.region ?_
      refine Ol.p mvs ?_
      refine Ol.p mvi ?_
      refine Ol.x (bsv [.int .i64 (nx : Int)] sl_L_int zr_int (by simp [Value.cells])) ?_
      rintro _ _ ⟨g58, rfl, rfl⟩
      refine Ol.x (apn (i := 2) (m := 1) sl_L_int zr_int rfl (by decide) rfl (Src.row (i := 0) rfl rfl) (by intro u hu; simp at hu; subst hu; rfl) (by unfold maxLen; omega) (by omega)) ?_
      rintro _ _ ⟨A', c', rfl, rfl⟩
      refine Ol.p ass ?_
      refine Ol.keep (.sub (.cons _ (.cons _ (List.Sublist.refl _)))) ?_
      refine Ol.nil ?_
      have hg1 : gn.length + 1 = (gn ++ [nx]).length := by simp
      have hg2 : intsN gn ++ [Value.int .i64 (nx : Int)] = intsN (gn ++ [nx]) := by simp [intsN]
      rw [hg1, hg2]
      have hav' : ∀ d, d ∉ gn ++ [nx] → Av (gra f.terms hcl) d nx := fun d hdn => by
        simp only [List.mem_append, List.mem_singleton, not_or] at hdn
        exact .step (hav d hdn.1) hstep (fun e => hdn.2 e.symm)
      refine Cd.seq ?_
      refine Cd.region ?_
      refine Ol.p asi ?_
      refine Ol.nil ?_
      refine Cd.block ?_   -- 2
      obtain ⟨L1, hL1⟩ : ∃ L1, L1 = row (.slice A' (gn ++ [nx]).length c') 3 1 (gn ++ [nx]).length (intsN (gn ++ [nx])) :: [blk g4 (.cells f.cells.toArray 25)] := ⟨_, rfl⟩
      refine Cd.loop (fun m σ L => ∃ d, m = f.blocks.length - d ∧ d ≤ f.blocks.length ∧ Has σ [(1, .slice Aw way.length cw), (2, .int .i64 a), (3, .int .i64 b), (4, .pointer (some ⟨g4, 0, none⟩)), (9, .slice A' (gn ++ [nx]).length c'), (10, .int .i64 nx), (11, .int .i64 k), (13, .int .i64 d)] ∧ L1 = L) (n := f.blocks.length) ⟨0, rfl, Nat.zero_le _, ⟨rfl, rfl, rfl, rfl, rfl, rfl, rfl, rfl, trivial⟩, hL1⟩ ?_
      clear hs
      rintro _ σ L ⟨d, rfl, hdn, hs, rfl⟩
      refine Cd.has hs ?_
      refine Cd.seq ?_
      refine Cd.seq ?_
      subst hL1
      refine Cd.region ?_
      refine Ol.p mvi ?_
      refine Ol.p (fdl fd_api_Func_1) ?_
      refine Ol.p (ld one_L_api_Block (Rd.blk (i := 1) rfl rfl)) ?_
      refine Ol.p (lens sl_L_api_Block) ?_
      refine Ol.p lsi ?_
      refine Ol.nil ?_
      refine Cd.cond rfl (fun h3 => ?_) (fun h3 => ?_)   -- $64
      · have hdl : d < f.blocks.length := by simpa using h3
        refine Cd.skip ?_
        refine Cd.seq ?_
        refine Cd.block ?_   -- 3
        refine Cd.seq ?_
        cases hov : overF f.terms (d : Int) (nx : Int) with
        | false =>
          refine Cd.region ?_
          refine Ol.p (ldw ag_api_Func (i := 1) rfl rfl) ?_
          refine Ol.p mvi ?_
          refine Ol.p mvi ?_
          refine Ol.s (cl en_dom_Over (fun M w' hh => dom_Over_ct (a := (d : Int)) (b := (nx : Int)) (hf.now hh) hfit (by omega))) ?_
          refine Ol.p mvb ?_
          refine Ol.gn hov ?_
          refine Ol.gn hov ?_
          refine Ol.gn hov ?_
          refine Ol.gn hov ?_
          refine Ol.p (pkFb hov) ?_
          refine Ol.nil ?_
          refine Cd.cond rfl (fun h4 => by cases h4) (fun h4 => ?_)   -- $76
          refine Cd.skip ?_
          refine Cd.region ?_
          refine Ol.p mvi ?_
          refine Ol.p addi ?_
          refine Ol.p asi ?_
          refine Ol.nil ?_
          exact ⟨f.blocks.length - (d + 1), by omega, d + 1, rfl, by omega, ⟨rfl, rfl, rfl, rfl, rfl, rfl, rfl, rfl, trivial⟩, rfl⟩
        | true =>
          have hmem : d ∈ gn ++ [nx] := by
            refine Classical.byContradiction fun hn => ?_
            rw [overF_iff hcl hd] at hov
            obtain ⟨x, y, h5, h6, _, h7⟩ := hov
            have e1 : x = d := by omega
            have e2 : y = nx := by omega
            subst e1 e2
            exact h7.2 (hav' x hn)
          have hhas : decide (d ∈ gn ++ [nx]) = true := by rw [decide_eq_true_iff]; exact hmem
          refine Cd.region ?_
          refine Ol.p (ldw ag_api_Func (i := 1) rfl rfl) ?_
          refine Ol.p mvi ?_
          refine Ol.p mvi ?_
          refine Ol.s (cl en_dom_Over (fun M w' hh => dom_Over_ct (a := (d : Int)) (b := (nx : Int)) (hf.now hh) hfit (by omega))) ?_
          refine Ol.p mvb ?_
          refine Ol.gp hov mvs ?_
          refine Ol.gp hov mvi ?_
          refine Ol.gs hov (cl en_law11_has (fun M w' hh => law11_has_nat (l := gn ++ [nx]) (n := d) (Reads.row hh (i := 0) rfl) (by simp; omega))) ?_
          refine Ol.gp hov noti ?_
          refine Ol.p (pkTb hov) ?_
          refine Ol.nil ?_
          refine Cd.cond rfl (fun h4 => by rw [hhas] at h4; cases h4) (fun h4 => ?_)   -- $76
          refine Cd.skip ?_
          refine Cd.region ?_
          refine Ol.p mvi ?_
          refine Ol.p addi ?_
          refine Ol.p asi ?_
          refine Ol.nil ?_
          exact ⟨f.blocks.length - (d + 1), by omega, d + 1, rfl, by omega, ⟨rfl, rfl, rfl, rfl, rfl, rfl, rfl, rfl, trivial⟩, rfl⟩
      refine Cd.exit (id := 2) ?_
      refine Cd.region ?_
      refine Ol.p mvi ?_
      refine Ol.p addi ?_
      refine Ol.p asi ?_
      refine Ol.nil ?_
      exact ⟨way.length - (k + 1), by omega, k + 1, A', c', nx, gn ++ [nx], rfl, by omega, by simp [hgl], hnxo, hav', ⟨rfl, rfl, rfl, rfl, rfl, rfl, rfl, trivial⟩, rfl⟩
    refine Cd.keep (.sub (.cons _ (List.Sublist.refl _))) ?_
    refine Cd.exit (id := 0) ?_
    exact ⟨⟨rfl, rfl, rfl, trivial⟩, rfl⟩
  rintro σ' _ ⟨hs', rfl⟩
  refine Cd.has hs' ?_
  have hOv : ∀ (x y : Int), (-9223372036854775808 ≤ y ∧ y ≤ 9223372036854775807) → ∀ (M : List Res) (w' : World), Hp w w.heap.size (M ++ L0) w' → Ct Try.prog 9 #[f.val, .int .i64 x, .int .i64 y] w' (Is (.bool (overF f.terms x y))) := fun x y hy M w' hh => dom_Over_ct (hf.now hh) hfit hy
  obtain ⟨x, hx⟩ : ∃ x, x = bothF f.terms a b := ⟨_, rfl⟩
  have hspec := both_spec hcl hd a b
  rw [← hx] at hspec
  have hxr : -9223372036854775808 ≤ x ∧ x ≤ 9223372036854775807 := by
    rcases hspec with ⟨e, _⟩ | ⟨m, e, hm, _⟩ <;> omega
  have hld : L0 = [blk g4 (.cells f.cells.toArray 25)] := hL0
  subst hL0
  refine Cd.seq ?_
  refine Cd.region ?_
  refine Ol.p (ldw ag_api_Func (i := 0) rfl rfl) ?_
  refine Ol.p mvi ?_
  refine Ol.p mvi ?_
  refine Ol.s (cl en_dom_Both (fun M w' hh => dom_Both_ct (hf.now hh) hfit ha hb)) ?_
  refine Ol.p asi ?_
  refine Ol.nil ?_
  rw [← hx]
  refine Cd.seq ?_
  refine Cd.seq ?_
  refine Cd.region ?_
  refine Ol.p asi ?_
  refine Ol.nil ?_
  refine Cd.block ?_   -- 4
  refine Cd.loop (fun m σ L => ∃ d, m = f.blocks.length - d ∧ d ≤ f.blocks.length ∧ Has σ [(2, .int .i64 a), (3, .int .i64 b), (4, .pointer (some ⟨g4, 0, none⟩)), (14, .int .i64 x), (15, .int .i64 d)] ∧ [blk g4 (.cells f.cells.toArray 25)] = L) (n := f.blocks.length) ⟨0, rfl, Nat.zero_le _, ⟨rfl, rfl, rfl, rfl, rfl, trivial⟩, rfl⟩ ?_
  rintro _ σ L ⟨d, rfl, hdn, hs, rfl⟩
  refine Cd.has hs ?_
  refine Cd.seq ?_
  refine Cd.seq ?_
  refine Cd.region ?_
  refine Ol.p mvi ?_
  refine Ol.p (fdl fd_api_Func_1) ?_
  refine Ol.p (ld one_L_api_Block (Rd.blk (i := 0) rfl rfl)) ?_
  refine Ol.p (lens sl_L_api_Block) ?_
  refine Ol.p lsi ?_
  refine Ol.nil ?_
  refine Cd.cond rfl (fun h => ?_) (fun h => ?_)   -- $85
  · have hdl : d < f.blocks.length := by simpa using h
    refine Cd.skip ?_
    refine Cd.seq ?_
    refine Cd.block ?_   -- 5
    refine Cd.mid (fun σ' L' => Has σ' [(2, .int .i64 a), (3, .int .i64 b), (4, .pointer (some ⟨g4, 0, none⟩)), (14, .int .i64 x), (15, .int .i64 d), (16, .bool (overF f.terms (d : Int) a && overF f.terms (d : Int) b))] ∧ [blk g4 (.cells f.cells.toArray 25)] = L') ?_ ?_
    · cases hA : overF f.terms (d : Int) a with
      | false =>
        refine Cd.region ?_
        refine Ol.p (ldw ag_api_Func (i := 0) rfl rfl) ?_
        refine Ol.p mvi ?_
        refine Ol.p mvi ?_
        refine Ol.s (cl en_dom_Over (hOv (d : Int) a ha)) ?_
        refine Ol.p mvb ?_
        refine Ol.gn hA ?_
        refine Ol.gn hA ?_
        refine Ol.gn hA ?_
        refine Ol.gn hA ?_
        refine Ol.p (pkFb hA) ?_
        refine Ol.p asb ?_
        refine Ol.nil ?_
        exact ⟨⟨rfl, rfl, rfl, rfl, rfl, rfl, trivial⟩, rfl⟩
      | true =>
        refine Cd.region ?_
        refine Ol.p (ldw ag_api_Func (i := 0) rfl rfl) ?_
        refine Ol.p mvi ?_
        refine Ol.p mvi ?_
        refine Ol.s (cl en_dom_Over (hOv (d : Int) a ha)) ?_
        refine Ol.p mvb ?_
        refine Ol.gp hA (ldw ag_api_Func (i := 0) rfl rfl) ?_
        refine Ol.gp hA mvi ?_
        refine Ol.gp hA mvi ?_
        refine Ol.gs hA (cl en_dom_Over (hOv (d : Int) b hb)) ?_
        refine Ol.p (pkTb hA) ?_
        refine Ol.p asb ?_
        refine Ol.nil ?_
        exact ⟨⟨rfl, rfl, rfl, rfl, rfl, rfl, trivial⟩, rfl⟩
    rintro σ' _ ⟨hs', rfl⟩
    refine Cd.has hs' ?_
    refine Cd.seq ?_
    cases hAB : (overF f.terms (d : Int) a && overF f.terms (d : Int) b) with
    | false =>
      refine Cd.region ?_
      refine Ol.p mvb ?_
      refine Ol.p mvb ?_
      refine Ol.gn rfl ?_
      refine Ol.gn rfl ?_
      refine Ol.gn rfl ?_
      refine Ol.gu ?_
      refine Ol.gu ?_
      refine Ol.gu ?_
      refine Ol.gu ?_
      refine Ol.gu ?_
      refine Ol.gn rfl ?_
      refine Ol.p (pkFb rfl) ?_
      refine Ol.nil ?_
      refine Cd.cond rfl (fun h4 => by cases h4) (fun h4 => ?_)   -- $109
      refine Cd.skip ?_
      refine Cd.region ?_
      refine Ol.p mvi ?_
      refine Ol.p addi ?_
      refine Ol.p asi ?_
      refine Ol.nil ?_
      exact ⟨f.blocks.length - (d + 1), by omega, d + 1, rfl, by omega, ⟨rfl, rfl, rfl, rfl, rfl, trivial⟩, rfl⟩
    | true =>
      rw [Bool.and_eq_true] at hAB
      obtain ⟨m, hm1, hm2, hm3⟩ : ∃ m : Nat, x = (m : Int) ∧ m < f.terms.length ∧ overF f.terms (d : Int) (m : Int) = true := by
        rcases hspec with ⟨_, e2⟩ | ⟨m, e1, e2, _, _, e3⟩
        · exact absurd hAB (e2 _)
        · exact ⟨m, e1, e2, e3 _ hAB.1 hAB.2⟩
      have hg4 : decide (x < 0) = false := by rw [hm1]; simp
      refine Cd.region ?_
      refine Ol.p mvb ?_
      refine Ol.p mvb ?_
      refine Ol.gp rfl mvi ?_
      refine Ol.gp rfl lsi ?_
      refine Ol.gp rfl mvb ?_
      refine Ol.gp hg4 (ldw ag_api_Func (i := 0) rfl rfl) ?_
      refine Ol.gp hg4 mvi ?_
      refine Ol.gp hg4 mvi ?_
      refine Ol.gs hg4 (cl en_dom_Over (hOv (d : Int) x hxr)) ?_
      refine Ol.gp hg4 noti ?_
      refine Ol.gp rfl (pkFb hg4) ?_
      refine Ol.p (pkTb rfl) ?_
      refine Ol.nil ?_
      refine Cd.cond rfl (fun h4 => by rw [hm1, hm3] at h4; cases h4) (fun h4 => ?_)   -- $109
      refine Cd.skip ?_
      refine Cd.region ?_
      refine Ol.p mvi ?_
      refine Ol.p addi ?_
      refine Ol.p asi ?_
      refine Ol.nil ?_
      exact ⟨f.blocks.length - (d + 1), by omega, d + 1, rfl, by omega, ⟨rfl, rfl, rfl, rfl, rfl, trivial⟩, rfl⟩
  refine Cd.exit (id := 4) ?_
  refine Cd.seq ?_
  rcases hspec with ⟨e1, _⟩ | ⟨m, e1, _, e2, e3, _⟩
  · have hg2 : decide (x < 0) = true := by rw [e1]; rfl
    refine Cd.region ?_
    refine Ol.p mvi ?_
    refine Ol.p lsi ?_
    refine Ol.p mvb ?_
    refine Ol.gn hg2 ?_
    refine Ol.gn hg2 ?_
    refine Ol.gn hg2 ?_
    refine Ol.gn hg2 ?_
    refine Ol.gn hg2 ?_
    refine Ol.gu ?_
    refine Ol.gu ?_
    refine Ol.gu ?_
    refine Ol.gu ?_
    refine Ol.gn hg2 ?_
    refine Ol.p (pkTb hg2) ?_
    refine Ol.p asb ?_
    refine Ol.nil ?_
    exact Cd.ret ⟨.bool _, ret1 rfl rfl, [], .nil, rfl, rfl⟩
  · have hg2 : decide (x < 0) = false := by rw [e1]; simp
    have h7 : overF f.terms x a = true := by rw [e1]; exact e2
    refine Cd.region ?_
    refine Ol.p mvi ?_
    refine Ol.p lsi ?_
    refine Ol.p mvb ?_
    refine Ol.gp hg2 (ldw ag_api_Func (i := 0) rfl rfl) ?_
    refine Ol.gp hg2 mvi ?_
    refine Ol.gp hg2 mvi ?_
    refine Ol.gs hg2 (cl en_dom_Over (hOv x a ha)) ?_
    refine Ol.gp hg2 mvb ?_
    refine Ol.gp h7 (ldw ag_api_Func (i := 0) rfl rfl) ?_
    refine Ol.gp h7 mvi ?_
    refine Ol.gp h7 mvi ?_
    refine Ol.gs h7 (cl en_dom_Over (hOv x b hb)) ?_
    refine Ol.gp hg2 (pkTb h7) ?_
    refine Ol.p (pkFb hg2) ?_
    refine Ol.p asb ?_
    refine Ol.nil ?_
    refine Cd.ret ⟨.bool _, ret1 rfl rfl, [], .nil, ?_, rfl⟩
    rw [e1, e3]
end
end Go.Proofs.Ytbcnejobnmljlaa
