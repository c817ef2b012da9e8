/- The law 10: FlowCounts, walked. -/
import Derived.Test.YtbcnejobnmljlaaDoorFlowOrder
import Derived.Test.YtbcnejobnmljlaaDoorCountsLaw
import Derived.Test.YtbcnejobnmljlaaDoorDrawT
namespace Go.Proofs.YtbcnejobnmljlaaDoor
set_option linter.unusedVariables false
open Go Go.RowKit
set_option maxRecDepth 100000

theorem Grow.adds {P : Program} {w0 : World} {B : Nat} {σ : Env} {r : Res} {L : List Res} {o : Oper} {e s n : Nat} {xs : List Value} (h : Sp P w0 B o σ (r :: L) (Grow 0 e s n xs (r :: L))) : Sp P w0 B o σ (r :: L) (Adds (NewL e s n xs) L) := fun M w hh =>
  Goes.mono (h M w hh) fun v w' ⟨L', h1, A, c, h2, h3⟩ => ⟨L', h1, [row (.slice A n c) e s n xs], h3, A, c, h2, rfl⟩
theorem ap0 {P : Program} {w0 : World} {B : Nat} {σ : Env} {L : List Res} {d : Option Nat} {ty T : TypeId} {pos : String} {af : Array Edge} {gd : Option (Nat × Bool)} {x y : Operand} {e s b c m c2 : Nat} {A A2 : Option Addr} {ys : List Value} {zv : Value} (hT : SlT P T e s b) (hz : ZrT P e zv) (hzs : zv.cells.size = s) (hs0 : 0 < s) (hsrc : Src w0 B (row (.slice A 0 c) e s 0 [] :: L) A2 m s ys)
    (h1 : ∀ u ∈ ys, u.oneCell' = true) (hml : m ≤ maxLen) (hby : m * b ≤ 140737488355328) (hx : ev σ x = .slice A 0 c := by exact rfl) (hy : ev σ y = .slice A2 m c2 := by exact rfl) :
    Sp P w0 B ⟨d, .call { callee := .builtin .append, args := #[x, y], argTypes := #[T, T] }, ty, pos, af, gd⟩ σ (row (.slice A 0 c) e s 0 [] :: L) (Adds (NewL e s m ys) L) := by
  have := Grow.adds (apn (d := d) (ty := ty) (pos := pos) (af := af) (gd := gd) (i := 0) (n := 0) (m := m) (L := row (.slice A 0 c) e s 0 [] :: L) hT hz hzs hs0 rfl hsrc h1 (by omega) (by rw [Nat.zero_add]; exact hby) hx hy)
  rw [Nat.zero_add, List.nil_append] at this
  exact this
section
theorem edV_get {l : List Ed} {k : Nat} {e : Ed} (h : l[k]? = some e) {j : Nat} {u : Value} (hj : e.cells[j]? = some u) : (edV l)[k * 3 + j]? = some u := by
  have hl := (List.getElem?_eq_some_iff.1 hj).1
  unfold edV
  rw [flat_get Ed.len _ _ _ _ h hl]
  exact hj
theorem reached_two {w : World} {f : RFun} {A : Option Addr} {c : Nat} {fr more : List Int} (hT : Tabs w w.heap.size) (hf : FunAt w w.heap.size f) (hfit : Fit f) (hr : Reads w w.heap.size 1 A (fr.length + more.length) (ints fr ++ ints more)) (hi : ∀ n ∈ fr ++ more, I64 n) (hl : fr.length + more.length < 2 ^ 60) :
    Ct Tryd.prog 28 #[f.val, .slice A (fr.length + more.length) c, .slice none 0 0] w (NewL 3 1 (reachedF f.terms (fr ++ more) []).length (intsN (reachedF f.terms (fr ++ more) []))) := by
  have := flow_Reached_ct (A1 := A) (c1 := c) (A2 := none) (c2 := 0) (fr := fr ++ more) (nt := []) hT hf hfit (by rw [List.length_append]; simpa [ints] using hr) Reads.none_ hi (by intro n hn; cases hn) (by rw [List.length_append]; exact hl) (by decide)
  rw [List.length_append] at this
  exact this
set_option maxHeartbeats 4000000 in
theorem law10_FlowCounts_ct {w : World} {f : RFun} {A1 A2 : Option Addr} {c1 c2 : Nat} {fr more : List Int} (hT : Tabs w w.heap.size) (hf : FunAt w w.heap.size f) (hfit : Fit f) (hr1 : Reads w w.heap.size 1 A1 fr.length (ints fr)) (hi1 : ∀ n ∈ fr, I64 n) (hl1 : fr.length < 2 ^ 60)
    (hr2 : Reads w w.heap.size 1 A2 more.length (ints more)) (hi2 : ∀ n ∈ more, I64 n) (hl2 : more.length < 2 ^ 60) :
    Ct Tryd.prog 6 #[f.val, .slice A1 fr.length c1, .slice A2 more.length c2] w (Is (.bool true)) := by
  have hbl := hfit.blen
  have htl : f.terms.length = f.blocks.length := by simp [RFun.terms]
  refine Ct.mk Tryd.func6 rfl rfl ?_
  refine Cd.seq ?_
  refine Cd.region ?_
  refine Ol.x bxg ?_
  rintro _ _ ⟨g3, rfl, rfl⟩
  refine Ol.p asb ?_
  refine Ol.nil ?_
  refine Cd.seq ?_
  refine Cd.seq ?_
  refine Cd.region ?_
  refine Ol.s (cl en_law10_awake (fun M w' hh => law10_awake_ct)) ?_
  refine Ol.p noti ?_
  refine Ol.nil ?_
  refine Cd.cond rfl (fun h => by cases h) (fun h => ?_)   -- $21
  refine Cd.skip ?_
  refine Cd.seq ?_
  refine Cd.seq ?_
  refine Cd.region ?_
  refine Ol.p (ldw ag_api_Func (i := 0) rfl rfl) ?_
  refine Ol.x (sp_call en_kit_FuncOf (fun M w' hh => kit_FuncOf_ct (hf.now hh) hfit (most := 500) (by decide))) ?_
  rintro _ _ ⟨_, rfl, N, rfl, hN1, hN2, rfl⟩
  refine Ol.p mvs ?_
  refine Ol.p (lens sl_L_int) ?_
  refine Ol.p addi ?_
  refine Ol.p mvs ?_
  refine Ol.p (lens sl_L_int) ?_
  refine Ol.p addi ?_
  refine Ol.p gti ?_
  refine Ol.nil ?_
  refine Cd.cond rfl (fun h => ?_) (fun h => ?_)   -- $30
  · refine Cd.seq ?_
    refine Cd.region ?_
    refine Ol.p asb ?_
    refine Ol.nil ?_
    exact Cd.ret ⟨.bool _, ret1 rfl rfl, [], .nil, rfl, rfl⟩
  have hsum : N + fr.length + more.length ≤ 500 := by
    have : ¬ (500 : Int) < (N : Int) + (fr.length : Int) + (more.length : Int) := by simpa using h
    omega
  have hnb : f.blocks.length ≤ 500 := by
    have h1 := hN1 (by omega)
    have h2 := blocksSz_len f.blocks
    unfold RFun.sz at h1
    omega
  clear hN1 hN2 h
  refine Cd.skip ?_
  refine Cd.seq ?_
  refine Cd.region ?_
  refine Ol.p (ldw ag_api_Func (i := 0) rfl rfl) ?_
  refine Ol.x (sp_call en_flow_Edges (fun M w' hh => flow_Edges_ct (hf.now hh) hfit)) ?_
  rintro _ _ ⟨_, rfl, A32, c32, rfl, rfl⟩
  refine Ol.p ass ?_
  refine Ol.nil ?_
  refine Cd.seq ?_
  refine Cd.region ?_
  refine Ol.p (ldw ag_api_Func (i := 1) rfl rfl) ?_
  refine Ol.x (sp_call en_flow_Critical (fun M w' hh => flow_Critical_ct (hf.now hh) hfit)) ?_
  rintro _ _ ⟨_, rfl, A34, c34, rfl, rfl⟩
  refine Ol.p ass ?_
  refine Ol.nil ?_
  obtain ⟨E, hE⟩ : ∃ E, E = someE f.terms (fun _ => true) := ⟨_, rfl⟩
  obtain ⟨C, hC⟩ : ∃ C, C = someE f.terms (critE f.terms) := ⟨_, rfl⟩
  rw [← hE, ← hC]
  have hEl : E.length ≤ 400 := by rw [hE]; exact someE_len_le _ _
  have hCl : C.length ≤ 400 := by rw [hC]; exact someE_len_le _ _
  refine Cd.seq ?_
  refine Cd.region ?_
  refine Ol.p asi ?_
  refine Ol.p asi ?_
  refine Ol.p asi ?_
  refine Ol.nil ?_
  refine Cd.seq ?_
  refine Cd.seq ?_
  refine Cd.region ?_
  refine Ol.p asi ?_
  refine Ol.nil ?_
  refine Cd.block ?_   -- 0
  obtain ⟨L0, hL0⟩ : ∃ L0, L0 = [row (.slice A34 C.length c34) 47 3 C.length (edV C), row (.slice A32 E.length c32) 47 3 E.length (edV E), blk g3 (.cells f.cells.toArray 38)] := ⟨_, rfl⟩
  refine Cd.loop (fun m σ L => ∃ k, m = f.blocks.length - k ∧ k ≤ f.blocks.length ∧ Has σ [(1, .slice A1 fr.length c1), (2, .slice A2 more.length c2), (3, .pointer (some ⟨g3, 0, none⟩)), (7, .slice A32 E.length c32), (8, .slice A34 C.length c34), (9, .int .i64 0), (10, .int .i64 (outTo f.terms k)), (11, .int .i64 (inTo f.terms k)), (12, .int .i64 k)] ∧ L0 = L) (n := f.blocks.length) ⟨0, rfl, Nat.zero_le _, ⟨rfl, rfl, rfl, rfl, rfl, rfl, by rw [outTo_zero]; rfl, by rw [inTo_zero]; rfl, rfl, trivial⟩, hL0⟩ ?_
  rintro _ σ L ⟨k, rfl, hk, hs, rfl⟩
  refine Cd.has hs ?_
  refine Cd.seq ?_
  refine Cd.seq ?_
  subst hL0
  refine Cd.region ?_
  refine Ol.p mvi ?_
  refine Ol.p (fdl fd_api_Func_1) ?_
  refine Ol.p (ld one_L_api_Block (Rd.blk (i := 2) rfl rfl)) ?_
  refine Ol.p (lens sl_L_api_Block) ?_
  refine Ol.p lsi ?_
  refine Ol.nil ?_
  refine Cd.cond rfl (fun h => ?_) (fun h => ?_)   -- $39
  · have hlt : k < f.blocks.length := by simpa using h
    have hb1 := outTo_le f.terms k
    have hb2 := inTo_le f.terms k
    have hb3 := someE_len_le f.terms fun e => decide (e.src = (k : Int))
    have hb4 := someE_len_le f.terms fun e => decide (e.to = (k : Int))
    refine Cd.skip ?_
    refine Cd.seq ?_
    refine Cd.block ?_   -- 1
    refine Cd.seq ?_
    refine Cd.region ?_
    refine Ol.p mvi ?_
    refine Ol.p (ldw ag_api_Func (i := 2) rfl rfl) ?_
    refine Ol.p mvi ?_
    refine Ol.x (sp_call en_flow_From (fun M w' hh => flow_From_ct (b := (k : Int)) (hf.now hh) hfit)) ?_
    rintro _ _ ⟨_, rfl, A45, c45, rfl, rfl⟩
    refine Ol.p (lens sl_L_api_Edge) ?_
    refine Ol.p addi ?_
    refine Ol.p asi ?_
    refine Ol.nil ?_
    refine Cd.region ?_
    refine Ol.p mvi ?_
    refine Ol.p (ldw ag_api_Func (i := 3) rfl rfl) ?_
    refine Ol.p mvi ?_
    refine Ol.x (sp_call en_flow_Into (fun M w' hh => flow_Into_ct (b := (k : Int)) (hf.now hh) hfit)) ?_
    rintro _ _ ⟨_, rfl, A51, c51, rfl, rfl⟩
    refine Ol.p (lens sl_L_api_Edge) ?_
    refine Ol.p addi ?_
    refine Ol.p asi ?_
    refine Ol.keep (.sub (.cons _ (.cons _ (List.Sublist.refl _)))) ?_
    refine Ol.nil ?_
    refine Cd.region ?_
    refine Ol.p mvi ?_
    refine Ol.p addi ?_
    refine Ol.p asi ?_
    refine Ol.nil ?_
    exact ⟨f.blocks.length - (k + 1), by omega, k + 1, rfl, by omega, ⟨rfl, rfl, rfl, rfl, rfl, rfl, by rw [outTo_succ]; rfl, by rw [inTo_succ]; rfl, rfl, trivial⟩, rfl⟩
  have hke : k = f.terms.length := by
    have : ¬ (k : Int) < f.blocks.length := by simpa using h
    omega
  subst hke
  rw [outTo_all, inTo_all, ← hE]
  clear hk hs h
  refine Cd.exit (id := 0) ?_
  refine Cd.seq ?_
  refine Cd.seq ?_
  refine Cd.region ?_
  refine Ol.p asi ?_
  refine Ol.nil ?_
  refine Cd.block ?_   -- 2
  obtain ⟨L0, hL0⟩ : ∃ L0, L0 = [row (.slice A34 C.length c34) 47 3 C.length (edV C), row (.slice A32 E.length c32) 47 3 E.length (edV E), blk g3 (.cells f.cells.toArray 38)] := ⟨_, rfl⟩
  refine Cd.loop (fun m σ L => ∃ k, m = E.length - k ∧ k ≤ E.length ∧ Has σ [(1, .slice A1 fr.length c1), (2, .slice A2 more.length c2), (3, .pointer (some ⟨g3, 0, none⟩)), (7, .slice A32 E.length c32), (8, .slice A34 C.length c34), (9, .int .i64 (critTo f.terms k).length), (10, .int .i64 E.length), (11, .int .i64 E.length), (13, .int .i64 k)] ∧ L0 = L) (n := E.length) ⟨0, rfl, Nat.zero_le _, ⟨rfl, rfl, rfl, rfl, rfl, rfl, rfl, rfl, rfl, trivial⟩, hL0⟩ ?_
  rintro _ σ L ⟨k, rfl, hk, hs, rfl⟩
  refine Cd.has hs ?_
  refine Cd.seq ?_
  refine Cd.seq ?_
  refine Cd.region ?_
  refine Ol.p mvi ?_
  refine Ol.p mvs ?_
  refine Ol.p (lens sl_L_api_Edge) ?_
  refine Ol.p lsi ?_
  refine Ol.nil ?_
  refine Cd.cond rfl (fun h => ?_) (fun h => ?_)   -- $57
  · have hlt : k < E.length := by simpa using h
    obtain ⟨e, he⟩ : ∃ e, E[k]? = some e := ⟨_, List.getElem?_eq_getElem hlt⟩
    have hcl : closed f.terms = true := by
      cases hc : closed f.terms with
      | true => rfl
      | false => rw [hE] at hlt; unfold someE at hlt; rw [hc] at hlt; simp at hlt
    have hsrc : (edV E)[k * 3 + 0]? = some (.int .i64 e.src) := edV_get he rfl
    have harm : (edV E)[k * 3 + 1]? = some (.int .i64 e.arm) := edV_get he rfl
    have hto : (edV E)[k * 3 + 2]? = some (.int .i64 e.to) := edV_get he rfl
    have hcrit := crit_iff hcl e
    have heT : (someE f.terms fun _ => true)[k]? = some e := by rw [← hE]; exact he
    refine Cd.skip ?_
    refine Cd.seq ?_
    refine Cd.block ?_   -- 3
    refine Cd.mid (fun σ' L' => Has σ' [(1, .slice A1 fr.length c1), (2, .slice A2 more.length c2), (3, .pointer (some ⟨g3, 0, none⟩)), (7, .slice A32 E.length c32), (8, .slice A34 C.length c34), (9, .int .i64 (critTo f.terms k).length), (10, .int .i64 E.length), (11, .int .i64 E.length), (13, .int .i64 k), (14, .bool (critE f.terms e))] ∧ L0 = L') ?_ ?_
    · subst hL0
      cases h9 : decide ((1 : Int) < ((someE f.terms fun x => decide (x.src = e.src)).length : Int)) with
      | true =>
        refine Cd.draw mixed 21 (fun opNo => match opNo with | 6 => some (NewL 47 3 (someE f.terms fun x => decide (x.src = e.src)).length (edV (someE f.terms fun x => decide (x.src = e.src)))) | 16 => some (NewL 47 3 (someE f.terms fun x => decide (x.to = e.to)).length (edV (someE f.terms fun x => decide (x.to = e.to)))) | _ => none) (fun _ => []) (by kernel_rfl) (by intro q V h; split at h <;> cases h; exact ⟨_, _, none, 0, rfl, rfl⟩; exact ⟨_, _, none, 0, rfl, rfl⟩) (fun u hu => ?_)
        refine Wk.p (ldw ag_api_Func (i := 2) rfl rfl) ?_
        refine Wk.p mvs ?_
        refine Wk.p mvi ?_
        refine Wk.p (ixn (ix := k) sl_L_api_Edge (Som.row (i := 1) rfl (by omega))) ?_
        refine Wk.p (fdp fd_api_Edge_0) ?_
        refine Wk.p (ld one_int (Rd.row (i := 1) rfl hsrc)) ?_
        refine Wk.x (V := NewL 47 3 (someE f.terms fun x => decide (x.src = e.src)).length (edV (someE f.terms fun x => decide (x.src = e.src)))) hu (sp_call en_flow_From (fun M w' hh => flow_From_ct (b := e.src) (hf.now hh) hfit)) ?_
        rintro _ _ hu6 ⟨A66, c66, rfl, rfl⟩
        refine Wk.p (lens sl_L_api_Edge) ?_
        refine Wk.p gti ?_
        refine Wk.p mvb ?_
        refine Wk.gp h9 (ldw ag_api_Func (i := 2) rfl rfl) ?_
        refine Wk.gp h9 mvs ?_
        refine Wk.gp h9 mvi ?_
        refine Wk.gp h9 (ixn (ix := k) sl_L_api_Edge (Som.row (i := 1) rfl (by omega))) ?_
        refine Wk.gp h9 (fdp fd_api_Edge_2) ?_
        refine Wk.gp h9 (ld one_int (Rd.row (i := 1) rfl hto)) ?_
        refine Wk.gx (V := NewL 47 3 (someE f.terms fun x => decide (x.to = e.to)).length (edV (someE f.terms fun x => decide (x.to = e.to)))) hu h9 (sp_call en_flow_Into (fun M w' hh => flow_Into_ct (b := e.to) (hf.now hh) hfit)) ?_
        rintro _ _ hu16 ⟨A76, c76, rfl, rfl⟩
        refine Wk.gp h9 (lens sl_L_api_Edge) ?_
        refine Wk.gp h9 gti ?_
        refine Wk.p (pkTb h9) ?_
        refine Wk.p asb ?_
        refine Wk.nil ?_
        rw [needs_cons hu16, needs_cons hu6, needs_none]
        refine Ol.keep (.sub (.cons _ (.cons _ (List.Sublist.refl _)))) ?_
        refine Ol.nil ?_
        refine ⟨⟨rfl, rfl, rfl, rfl, rfl, rfl, rfl, rfl, rfl, ?_, trivial⟩, rfl⟩
        have h9' : 1 < (someE f.terms fun x => decide (x.src = e.src)).length := by simp only [decide_eq_true_eq] at h9; omega
        rw [hcrit]
        simp [h9', updO, upd]
        omega
      | false =>
        refine Cd.draw mixed 21 (fun opNo => match opNo with | 6 => some (NewL 47 3 (someE f.terms fun x => decide (x.src = e.src)).length (edV (someE f.terms fun x => decide (x.src = e.src)))) | 16 => some (NewL 47 3 0 []) | _ => none) (fun _ => []) (by kernel_rfl) (by intro q V h; split at h <;> cases h; exact ⟨_, _, none, 0, rfl, rfl⟩; exact ⟨_, _, none, 0, rfl, rfl⟩) (fun u hu => ?_)
        refine Wk.p (ldw ag_api_Func (i := 2) rfl rfl) ?_
        refine Wk.p mvs ?_
        refine Wk.p mvi ?_
        refine Wk.p (ixn (ix := k) sl_L_api_Edge (Som.row (i := 1) rfl (by omega))) ?_
        refine Wk.p (fdp fd_api_Edge_0) ?_
        refine Wk.p (ld one_int (Rd.row (i := 1) rfl hsrc)) ?_
        refine Wk.x (V := NewL 47 3 (someE f.terms fun x => decide (x.src = e.src)).length (edV (someE f.terms fun x => decide (x.src = e.src)))) hu (sp_call en_flow_From (fun M w' hh => flow_From_ct (b := e.src) (hf.now hh) hfit)) ?_
        rintro _ _ hu6 ⟨A66, c66, rfl, rfl⟩
        refine Wk.p (lens sl_L_api_Edge) ?_
        refine Wk.p gti ?_
        refine Wk.p mvb ?_
        refine Wk.gn h9 ?_
        refine Wk.gn h9 ?_
        refine Wk.gn h9 ?_
        refine Wk.gn h9 ?_
        refine Wk.gn h9 ?_
        refine Wk.gn h9 ?_
        refine Wk.gn h9 ?_
        refine Wk.gn h9 ?_
        refine Wk.gn h9 ?_
        refine Wk.p (pkFb h9) ?_
        refine Wk.p asb ?_
        refine Wk.nil ?_
        rw [needs_cons hu6, needs_none]
        refine Ol.keep (.sub (.cons _ (List.Sublist.refl _))) ?_
        refine Ol.nil ?_
        refine ⟨⟨rfl, rfl, rfl, rfl, rfl, rfl, rfl, rfl, rfl, ?_, trivial⟩, rfl⟩
        have h9' : ¬ 1 < (someE f.terms fun x => decide (x.src = e.src)).length := by simp only [decide_eq_false_iff_not] at h9; omega
        rw [hcrit]
        simp [h9', updO, upd]
    rintro σ' _ ⟨hs', rfl⟩
    refine Cd.has hs' ?_
    refine Cd.seq ?_
    refine Cd.mid (fun σ' L' => Has σ' [(1, .slice A1 fr.length c1), (2, .slice A2 more.length c2), (3, .pointer (some ⟨g3, 0, none⟩)), (7, .slice A32 E.length c32), (8, .slice A34 C.length c34), (9, .int .i64 (critTo f.terms k).length), (10, .int .i64 E.length), (11, .int .i64 E.length), (13, .int .i64 k), (14, .bool (critE f.terms e)), (97, .bool false)] ∧ L0 = L') ?_ ?_
    · cases hcr : critE f.terms e with
      | false =>
        refine Cd.draw mixed 18 (fun _ => none) (fun _ => []) (by kernel_rfl) (fun _ _ h => by cases h) (fun u hu => ?_)
        refine Wk.p mvb ?_
        refine Wk.p mvb ?_
        refine Wk.gn rfl ?_
        refine Wk.gn rfl ?_
        refine Wk.gn rfl ?_
        refine Wk.gn rfl ?_
        refine Wk.gn rfl ?_
        refine Wk.gu ?_
        refine Wk.gu ?_
        refine Wk.gu ?_
        refine Wk.gu ?_
        refine Wk.gu ?_
        refine Wk.gu ?_
        refine Wk.gu ?_
        refine Wk.gu ?_
        refine Wk.gu ?_
        refine Wk.gn rfl ?_
        refine Wk.p (pkFb rfl) ?_
        refine Wk.nil ?_
        refine Ol.nil ?_
        exact ⟨⟨rfl, rfl, rfl, rfl, rfl, rfl, rfl, rfl, rfl, rfl, rfl, trivial⟩, rfl⟩
      | true =>
        have hget : C[(critTo f.terms k).length]? = some e := by rw [hC]; exact critTo_get heT hcr
        have hclt := (List.getElem?_eq_some_iff.1 hget).1
        have h5 : decide (((critTo f.terms k).length : Int) = (C.length : Int)) = false := by simp; omega
        subst hL0
        refine Cd.draw mixed 18 (fun _ => none) (fun _ => []) (by kernel_rfl) (fun _ _ h => by cases h) (fun u hu => ?_)
        refine Wk.p mvb ?_
        refine Wk.p mvb ?_
        refine Wk.gp rfl mvi ?_
        refine Wk.gp rfl mvs ?_
        refine Wk.gp rfl (lens sl_L_api_Edge) ?_
        refine Wk.gp rfl eqi ?_
        refine Wk.gp rfl mvb ?_
        refine Wk.gp h5 mvs ?_
        refine Wk.gp h5 mvi ?_
        refine Wk.gp h5 (ixn (ix := (critTo f.terms k).length) sl_L_api_Edge (Som.row (i := 0) rfl (by omega))) ?_
        refine Wk.gp h5 (ldr ag_api_Edge (i := 0) rfl e.len (fun j u hu => edV_get hget hu)) ?_
        refine Wk.gp h5 mvs ?_
        refine Wk.gp h5 mvi ?_
        refine Wk.gp h5 (ixn (ix := k) sl_L_api_Edge (Som.row (i := 1) rfl (by omega))) ?_
        refine Wk.gp h5 (ldr ag_api_Edge (i := 1) rfl e.len (fun j u hu => edV_get he hu)) ?_
        refine Wk.gp h5 (nes (n := 3) (a := [e.src, e.arm, e.to]) (b := [e.src, e.arm, e.to]) st_api_Edge rfl rfl) ?_
        refine Wk.gp rfl (pkFb h5) ?_
        refine Wk.p (pkTb rfl) ?_
        refine Wk.nil ?_
        refine Ol.nil ?_
        refine ⟨⟨rfl, rfl, rfl, rfl, rfl, rfl, rfl, rfl, rfl, rfl, ?_, trivial⟩, rfl⟩
        simp [updO, upd]
    rintro σ' _ ⟨hs', rfl⟩
    refine Cd.has hs' ?_
    refine Cd.cond rfl (fun h => by cases h) (fun h => ?_)   -- $97
    refine Cd.skip ?_
    refine Cd.mid (fun σ' L' => Has σ' [(1, .slice A1 fr.length c1), (2, .slice A2 more.length c2), (3, .pointer (some ⟨g3, 0, none⟩)), (7, .slice A32 E.length c32), (8, .slice A34 C.length c34), (9, .int .i64 (critTo f.terms (k + 1)).length), (10, .int .i64 E.length), (11, .int .i64 E.length), (13, .int .i64 k)] ∧ L0 = L') ?_ ?_
    · have hsucc := critTo_succ heT
      have hcle : (critTo f.terms k).length ≤ 400 := critTo_le _ _
      refine Cd.seq ?_
      refine Cd.region ?_
      refine Ol.p mvb ?_
      refine Ol.nil ?_
      refine Cd.cond rfl (fun h => ?_) (fun h => ?_)   -- $98
      · skip
        refine Cd.region ?_
        refine Ol.p mvi ?_
        refine Ol.p addi ?_
        refine Ol.p asi ?_
        refine Ol.nil ?_
        rw [if_pos h] at hsucc
        exact ⟨⟨rfl, rfl, rfl, rfl, rfl, by rw [hsucc, List.length_append]; rfl, rfl, rfl, rfl, trivial⟩, rfl⟩
      refine Cd.skip ?_
      rw [if_neg (by rw [h]; simp), List.append_nil] at hsucc
      exact ⟨⟨rfl, rfl, rfl, rfl, rfl, by rw [hsucc]; rfl, rfl, rfl, rfl, trivial⟩, rfl⟩
    rintro σ' _ ⟨hs', rfl⟩
    refine Cd.has hs' ?_
    refine Cd.mid (fun σ' L' => Has σ' [(1, .slice A1 fr.length c1), (2, .slice A2 more.length c2), (3, .pointer (some ⟨g3, 0, none⟩)), (7, .slice A32 E.length c32), (8, .slice A34 C.length c34), (9, .int .i64 (critTo f.terms (k + 1)).length), (10, .int .i64 E.length), (11, .int .i64 E.length), (13, .int .i64 k), (144, .bool false)] ∧ L0 = L') ?_ ?_
    · cases k with
      | zero =>
        refine Cd.draw mixed 44 (fun _ => none) (fun _ => []) (by kernel_rfl) (fun _ _ h => by cases h) (fun u hu => ?_)
        refine Wk.p mvi ?_
        refine Wk.p gti ?_
        refine Wk.p mvb ?_
        refine Wk.gn rfl ?_
        refine Wk.gn rfl ?_
        refine Wk.gn rfl ?_
        refine Wk.gn rfl ?_
        refine Wk.gn rfl ?_
        refine Wk.gn rfl ?_
        refine Wk.gn rfl ?_
        refine Wk.gn rfl ?_
        refine Wk.gn rfl ?_
        refine Wk.gn rfl ?_
        refine Wk.gn rfl ?_
        refine Wk.gn rfl ?_
        refine Wk.gn rfl ?_
        refine Wk.gu ?_
        refine Wk.gu ?_
        refine Wk.gu ?_
        refine Wk.gu ?_
        refine Wk.gu ?_
        refine Wk.gu ?_
        refine Wk.gu ?_
        refine Wk.gu ?_
        refine Wk.gu ?_
        refine Wk.gu ?_
        refine Wk.gu ?_
        refine Wk.gu ?_
        refine Wk.gu ?_
        refine Wk.gu ?_
        refine Wk.gu ?_
        refine Wk.gu ?_
        refine Wk.gu ?_
        refine Wk.gu ?_
        refine Wk.gu ?_
        refine Wk.gu ?_
        refine Wk.gu ?_
        refine Wk.gu ?_
        refine Wk.gu ?_
        refine Wk.gu ?_
        refine Wk.gu ?_
        refine Wk.gu ?_
        refine Wk.gn rfl ?_
        refine Wk.p (pkFb rfl) ?_
        refine Wk.nil ?_
        refine Ol.nil ?_
        exact ⟨⟨rfl, rfl, rfl, rfl, rfl, rfl, rfl, rfl, rfl, rfl, trivial⟩, rfl⟩
      | succ q =>
        obtain ⟨e', he'⟩ : ∃ e, E[q]? = some e := ⟨_, List.getElem?_eq_getElem (by omega)⟩
        have hlt' := edges_next (ts := f.terms) (by rw [← hE]; exact he') heT
        have hsrc' : (edV E)[q * 3 + 0]? = some (.int .i64 e'.src) := edV_get he' rfl
        have harm' : (edV E)[q * 3 + 1]? = some (.int .i64 e'.arm) := edV_get he' rfl
        have hq : ((q + 1 : Nat) : Int) - 1 = (q : Int) := by omega
        have hpos : decide ((0 : Int) < ((q + 1 : Nat) : Int)) = true := by simp <;> omega
        have hgt : decide (e.src < e'.src) = false := by
          unfold EdLt at hlt'; simp; omega
        subst hL0
        cases heq : decide (e'.src = e.src) with
        | false =>
          refine Cd.draw mixed 44 (fun _ => none) (fun _ => []) (by kernel_rfl) (fun _ _ h => by cases h) (fun u hu => ?_)
          refine Wk.p mvi ?_
          refine Wk.p gti ?_
          refine Wk.p mvb ?_
          refine Wk.gp hpos mvs ?_
          refine Wk.gp hpos mvi ?_
          refine Wk.gp hpos subi ?_
          refine Wk.gp hpos (ixn (ix := q) sl_L_api_Edge (Som.row (i := 1) rfl (by omega)) (hy := congrArg (Value.int .i64) hq)) ?_
          refine Wk.gp hpos (fdp fd_api_Edge_0) ?_
          refine Wk.gp hpos (ld one_int (Rd.row (i := 1) rfl hsrc')) ?_
          refine Wk.gp hpos mvs ?_
          refine Wk.gp hpos mvi ?_
          refine Wk.gp hpos (ixn (ix := q + 1) sl_L_api_Edge (Som.row (i := 1) rfl (by omega))) ?_
          refine Wk.gp hpos (fdp fd_api_Edge_0) ?_
          refine Wk.gp hpos (ld one_int (Rd.row (i := 1) rfl hsrc)) ?_
          refine Wk.gp hpos gti ?_
          refine Wk.gp hpos mvb ?_
          refine Wk.gp hgt mvs ?_
          refine Wk.gp hgt mvi ?_
          refine Wk.gp hgt subi ?_
          refine Wk.gp hgt (ixn (ix := q) sl_L_api_Edge (Som.row (i := 1) rfl (by omega)) (hy := congrArg (Value.int .i64) hq)) ?_
          refine Wk.gp hgt (fdp fd_api_Edge_0) ?_
          refine Wk.gp hgt (ld one_int (Rd.row (i := 1) rfl hsrc')) ?_
          refine Wk.gp hgt mvs ?_
          refine Wk.gp hgt mvi ?_
          refine Wk.gp hgt (ixn (ix := q + 1) sl_L_api_Edge (Som.row (i := 1) rfl (by omega))) ?_
          refine Wk.gp hgt (fdp fd_api_Edge_0) ?_
          refine Wk.gp hgt (ld one_int (Rd.row (i := 1) rfl hsrc)) ?_
          refine Wk.gp hgt eqi ?_
          refine Wk.gp hgt mvb ?_
          refine Wk.gn heq ?_
          refine Wk.gn heq ?_
          refine Wk.gn heq ?_
          refine Wk.gn heq ?_
          refine Wk.gn heq ?_
          refine Wk.gn heq ?_
          refine Wk.gn heq ?_
          refine Wk.gn heq ?_
          refine Wk.gn heq ?_
          refine Wk.gn heq ?_
          refine Wk.gn heq ?_
          refine Wk.gn heq ?_
          refine Wk.gp hgt (pkFb heq) ?_
          refine Wk.gp hpos (pkFb hgt) ?_
          refine Wk.p (pkTb hpos) ?_
          refine Wk.nil ?_
          refine Ol.nil ?_
          exact ⟨⟨rfl, rfl, rfl, rfl, rfl, rfl, rfl, rfl, rfl, rfl, trivial⟩, rfl⟩
        | true =>
          have hge : decide (e.arm ≤ e'.arm) = false := by
            have : e'.src = e.src := by simpa using heq
            unfold EdLt at hlt'; simp; omega
          refine Cd.draw mixed 44 (fun _ => none) (fun _ => []) (by kernel_rfl) (fun _ _ h => by cases h) (fun u hu => ?_)
          refine Wk.p mvi ?_
          refine Wk.p gti ?_
          refine Wk.p mvb ?_
          refine Wk.gp hpos mvs ?_
          refine Wk.gp hpos mvi ?_
          refine Wk.gp hpos subi ?_
          refine Wk.gp hpos (ixn (ix := q) sl_L_api_Edge (Som.row (i := 1) rfl (by omega)) (hy := congrArg (Value.int .i64) hq)) ?_
          refine Wk.gp hpos (fdp fd_api_Edge_0) ?_
          refine Wk.gp hpos (ld one_int (Rd.row (i := 1) rfl hsrc')) ?_
          refine Wk.gp hpos mvs ?_
          refine Wk.gp hpos mvi ?_
          refine Wk.gp hpos (ixn (ix := q + 1) sl_L_api_Edge (Som.row (i := 1) rfl (by omega))) ?_
          refine Wk.gp hpos (fdp fd_api_Edge_0) ?_
          refine Wk.gp hpos (ld one_int (Rd.row (i := 1) rfl hsrc)) ?_
          refine Wk.gp hpos gti ?_
          refine Wk.gp hpos mvb ?_
          refine Wk.gp hgt mvs ?_
          refine Wk.gp hgt mvi ?_
          refine Wk.gp hgt subi ?_
          refine Wk.gp hgt (ixn (ix := q) sl_L_api_Edge (Som.row (i := 1) rfl (by omega)) (hy := congrArg (Value.int .i64) hq)) ?_
          refine Wk.gp hgt (fdp fd_api_Edge_0) ?_
          refine Wk.gp hgt (ld one_int (Rd.row (i := 1) rfl hsrc')) ?_
          refine Wk.gp hgt mvs ?_
          refine Wk.gp hgt mvi ?_
          refine Wk.gp hgt (ixn (ix := q + 1) sl_L_api_Edge (Som.row (i := 1) rfl (by omega))) ?_
          refine Wk.gp hgt (fdp fd_api_Edge_0) ?_
          refine Wk.gp hgt (ld one_int (Rd.row (i := 1) rfl hsrc)) ?_
          refine Wk.gp hgt eqi ?_
          refine Wk.gp hgt mvb ?_
          refine Wk.gp heq mvs ?_
          refine Wk.gp heq mvi ?_
          refine Wk.gp heq subi ?_
          refine Wk.gp heq (ixn (ix := q) sl_L_api_Edge (Som.row (i := 1) rfl (by omega)) (hy := congrArg (Value.int .i64) hq)) ?_
          refine Wk.gp heq (fdp fd_api_Edge_1) ?_
          refine Wk.gp heq (ld one_int (Rd.row (i := 1) rfl harm')) ?_
          refine Wk.gp heq mvs ?_
          refine Wk.gp heq mvi ?_
          refine Wk.gp heq (ixn (ix := q + 1) sl_L_api_Edge (Som.row (i := 1) rfl (by omega))) ?_
          refine Wk.gp heq (fdp fd_api_Edge_1) ?_
          refine Wk.gp heq (ld one_int (Rd.row (i := 1) rfl harm)) ?_
          refine Wk.gp heq gei ?_
          refine Wk.gp hgt (pkTb heq) ?_
          refine Wk.gp hpos (pkFb hgt) ?_
          refine Wk.p (pkTb hpos) ?_
          refine Wk.nil ?_
          refine Ol.nil ?_
          refine ⟨⟨rfl, rfl, rfl, rfl, rfl, rfl, rfl, rfl, rfl, ?_, trivial⟩, rfl⟩
          show Value.bool (decide (e.arm ≤ e'.arm)) = _
          rw [hge]
    rintro σ' _ ⟨hs', rfl⟩
    refine Cd.has hs' ?_
    refine Cd.cond rfl (fun h => by cases h) (fun h => ?_)   -- $144
    refine Cd.skip ?_
    refine Cd.region ?_
    refine Ol.p mvi ?_
    refine Ol.p addi ?_
    refine Ol.p asi ?_
    refine Ol.nil ?_
    exact ⟨E.length - (k + 1), by omega, k + 1, rfl, by omega, ⟨rfl, rfl, rfl, rfl, rfl, rfl, rfl, rfl, rfl, trivial⟩, rfl⟩
  have hke : k = E.length := by
    have : ¬ (k : Int) < E.length := by simpa using h
    omega
  have hcall : critTo f.terms E.length = C := by rw [hE, hC]; exact critTo_all _
  subst hke
  rw [hcall]
  clear hk hs h
  subst hL0
  obtain ⟨Ra, hRa⟩ : ∃ R, R = reachedF f.terms fr [] := ⟨_, rfl⟩
  obtain ⟨Rb, hRb⟩ : ∃ R, R = reachedF f.terms more [] := ⟨_, rfl⟩
  obtain ⟨Rc_, hRc⟩ : ∃ R, R = reachedF f.terms (fr ++ more) [] := ⟨_, rfl⟩
  have hlen : ∀ fr, (reachedF f.terms fr []).length < 2 ^ 62 := fun fr => by
    have : (reachedF f.terms fr []).length ≤ 1024 := by
      unfold reachedF
      cases closed f.terms with
      | false => simp
      | true => rw [cond_true]; exact listS_len_le _
    omega
  refine Cd.exit (id := 2) ?_
  refine Cd.seq ?_
  refine Cd.draw mixed 8 (fun opNo => match opNo with | 2 => some (NewL 3 1 Ra.length (intsN Ra)) | 5 => some (NewL 3 1 Rb.length (intsN Rb)) | _ => none) (fun _ => []) (by kernel_rfl) (by intro q V h; split at h <;> cases h; exact ⟨_, _, none, 0, rfl, rfl⟩; exact ⟨_, _, none, 0, rfl, rfl⟩) (fun u hu => ?_)
  refine Wk.p (ldw ag_api_Func (i := 2) rfl rfl) ?_
  refine Wk.p mvs ?_
  refine Wk.x (V := NewL 3 1 Ra.length (intsN Ra)) hu (by rw [hRa]; exact sp_call en_flow_Reached (fun M w' hh => flow_Reached_ct (fr := fr) (nt := []) (hT.now hh) (hf.now hh) hfit (hr1.now hh) Reads.none_ hi1 (by intro n hn; cases hn) (by omega) (by decide))) ?_
  rintro _ _ hu2 ⟨A147, c147, rfl, rfl⟩
  refine Wk.p (ldw ag_api_Func (i := 2) rfl rfl) ?_
  refine Wk.p mvs ?_
  refine Wk.x (V := NewL 3 1 Rb.length (intsN Rb)) hu (by rw [hRb]; exact sp_call en_flow_Reached (fun M w' hh => flow_Reached_ct (fr := more) (nt := []) (hT.now hh) (hf.now hh) hfit (hr2.now hh) Reads.none_ hi2 (by intro n hn; cases hn) (by omega) (by decide))) ?_
  rintro _ _ hu5 ⟨A150, c150, rfl, rfl⟩
  refine Wk.p ass ?_
  refine Wk.p ass ?_
  refine Wk.nil ?_
  rw [needs_cons hu5, needs_cons hu2, needs_none]
  refine Ol.nil ?_
  obtain ⟨L0, hL0⟩ : ∃ L0, L0 = [row (.slice A150 Rb.length c150) 3 1 Rb.length (intsN Rb), row (.slice A147 Ra.length c147) 3 1 Ra.length (intsN Ra), row (.slice A34 C.length c34) 47 3 C.length (edV C), row (.slice A32 E.length c32) 47 3 E.length (edV E), blk g3 (.cells f.cells.toArray 38)] := ⟨_, rfl⟩
  have hi3 : ∀ n ∈ fr ++ more, I64 n := fun n hn => by
    rcases List.mem_append.1 hn with hn | hn
    · exact hi1 n hn
    · exact hi2 n hn
  have h1c : ∀ l : List Int, ∀ u ∈ ints l, u.oneCell' = true := fun l u hu => by
    simp only [ints, List.mem_map] at hu
    obtain ⟨_, _, rfl⟩ := hu
    rfl
  refine Cd.seq ?_
  refine Cd.drawT (L0 := L0) mixed 8 (fun opNo => match opNo with | 1 => some (NewSv 3 1 0 0 []) | 3 => some (NewL 3 1 fr.length (ints fr)) | 5 => some (NewL 3 1 (fr.length + more.length) (ints fr ++ ints more)) | 6 => some (NewL 3 1 Rc_.length (intsN Rc_)) | _ => none) (fun opNo => match opNo with | 3 => [1] | 5 => [3] | 6 => [5] | _ => []) (fun opNo => match opNo with | 3 => some 1 | 5 => some 3 | _ => none) [] (fun _ => []) (by kernel_rfl) (by rw [hL0]; exact .refl _) (by intro c hc; cases hc) (by intro q V h; split at h <;> cases h; exact ⟨_, _, 0, rfl, rfl⟩; exact ⟨_, _, none, 0, rfl, rfl⟩; exact ⟨_, _, none, 0, rfl, rfl⟩; exact ⟨_, _, none, 0, rfl, rfl⟩) (fun u hu hu0 => ?_)
  refine WkT.p (by rw [hL0]; exact ldw ag_api_Func (i := 4) rfl rfl) ?_
  refine WkT.xn (V := NewSv 3 1 0 0 []) (l := []) (l2 := []) hu rfl rfl rfl (by simp only [needs_none]; exact (NewS.adds (bsv [] sl_L_int zr_int (by simp)))) ?_
  rintro _ _ hu1 ⟨g152, rfl, rfl⟩
  refine WkT.p mvs ?_
  refine WkT.xn (V := NewL 3 1 fr.length (ints fr)) (l := [1]) (l2 := []) hu rfl rfl rfl (by simp only [needs_cons hu1, needs_none]; exact (ap0 sl_L_int zr_int rfl (by decide) (Src.slc hr1) (h1c fr) (by unfold maxLen; omega) (by omega))) ?_
  rintro _ _ hu3 ⟨A154, c154, rfl, rfl⟩
  refine WkT.p mvs ?_
  refine WkT.xn (V := NewL 3 1 (fr.length + more.length) (ints fr ++ ints more)) (l := [3]) (l2 := []) hu rfl rfl rfl (by simp only [needs_cons hu3, needs_none]; exact (Grow.adds (apn (i := 0) sl_L_int zr_int rfl (by decide) rfl (Src.slc hr2) (h1c more) (by unfold maxLen; omega) (by omega)))) ?_
  rintro _ _ hu5 ⟨A156, c156, rfl, rfl⟩
  refine WkT.xn (V := NewL 3 1 Rc_.length (intsN Rc_)) (l := [5]) (l2 := [5]) hu rfl rfl rfl (by simp only [needs_cons hu5, needs_none]; exact (by rw [hRc]; exact sp_call en_flow_Reached (fun M w' hh => reached_two (hT.now hh) (hf.now hh) hfit (Reads.row hh (i := 0) rfl) hi3 (by omega)))) ?_
  rintro _ _ hu6 ⟨A157, c157, rfl, rfl⟩
  refine WkT.p ass ?_
  refine WkT.nil ?_
  change Ol _ _ _ _ _ (needs u [6, 5] _)
  rw [needs_cons hu6, needs_cons hu5, needs_none]
  refine Ol.nil ?_
  obtain ⟨L1, hL1⟩ : ∃ L1, L1 = row (.slice A157 Rc_.length c157) 3 1 Rc_.length (intsN Rc_) :: row (.slice A156 (fr.length + more.length) c156) 3 1 (fr.length + more.length) (ints fr ++ ints more) :: L0 := ⟨_, rfl⟩
  subst hL0
  refine Cd.seq ?_
  refine Cd.seq ?_
  refine Cd.region ?_
  refine Ol.p asi ?_
  refine Ol.nil ?_
  refine Cd.block ?_   -- 4
  have hlc : Rc_.length < 2 ^ 62 := by rw [hRc]; exact hlen _
  have hla : Ra.length < 2 ^ 62 := by rw [hRa]; exact hlen _
  have hlb : Rb.length < 2 ^ 62 := by rw [hRb]; exact hlen _
  refine Cd.loop (fun m σ L => ∃ k, m = Rc_.length - k ∧ k ≤ Rc_.length ∧ Has σ [(7, .slice A32 E.length c32), (8, .slice A34 C.length c34), (9, .int .i64 C.length), (10, .int .i64 E.length), (11, .int .i64 E.length), (15, .slice A147 Ra.length c147), (16, .slice A150 Rb.length c150), (17, .slice A157 Rc_.length c157), (18, .int .i64 k)] ∧ L1 = L) (n := Rc_.length) ⟨0, rfl, Nat.zero_le _, ⟨rfl, rfl, rfl, rfl, rfl, rfl, rfl, rfl, rfl, trivial⟩, hL1⟩ ?_
  rintro _ σ L ⟨k, rfl, hk, hs, rfl⟩
  refine Cd.has hs ?_
  refine Cd.seq ?_
  refine Cd.seq ?_
  refine Cd.region ?_
  refine Ol.p mvi ?_
  refine Ol.p mvs ?_
  refine Ol.p (lens sl_L_int) ?_
  refine Ol.p lsi ?_
  refine Ol.nil ?_
  refine Cd.cond rfl (fun h => ?_) (fun h => ?_)   -- $161
  · have hlt : k < Rc_.length := by simpa using h
    obtain ⟨r, hr⟩ : ∃ r, Rc_[k]? = some r := ⟨_, List.getElem?_eq_getElem hlt⟩
    have hrv : (intsN Rc_)[k]? = some (.int .i64 (r : Int)) := intsN_get hr
    have hin : r ∈ Ra ∨ r ∈ Rb := by
      rw [hRa, hRb, ← reached_union, ← hRc]
      exact List.mem_of_getElem? hr
    refine Cd.skip ?_
    refine Cd.seq ?_
    refine Cd.block ?_   -- 5
    refine Cd.seq ?_
    subst hL1
    cases hA : decide (indexI (fun x => decide (x = (r : Int))) (natsI Ra) < 0) with
    | false =>
      refine Cd.region ?_
      refine Ol.p mvs ?_
      refine Ol.p mvs ?_
      refine Ol.p mvi ?_
      refine Ol.p (ixn1 (ix := k) sl_L_int (Som.row (i := 0) rfl (by omega))) ?_
      refine Ol.p (ld one_int (Rd.row (i := 0) rfl hrv)) ?_
      refine Ol.s (cl en_law10_place (fun M w' hh => law10_place_nat (l := Ra) (n := (r : Int)) (Reads.row hh (i := 3) rfl) hla)) ?_
      refine Ol.p lsi ?_
      refine Ol.p mvb ?_
      refine Ol.gn hA ?_
      refine Ol.gn hA ?_
      refine Ol.gn hA ?_
      refine Ol.gn hA ?_
      refine Ol.gn hA ?_
      refine Ol.gn hA ?_
      refine Ol.gn hA ?_
      refine Ol.p (pkFb hA) ?_
      refine Ol.nil ?_
      refine Cd.cond rfl (fun h => by cases h) (fun h => ?_)   -- $179
      refine Cd.skip ?_
      refine Cd.region ?_
      refine Ol.p mvi ?_
      refine Ol.p addi ?_
      refine Ol.p asi ?_
      refine Ol.nil ?_
      exact ⟨Rc_.length - (k + 1), by omega, k + 1, rfl, by omega, ⟨rfl, rfl, rfl, rfl, rfl, rfl, rfl, rfl, rfl, trivial⟩, rfl⟩
    | true =>
      have hnA : r ∉ Ra := fun hm => by
        have h1 := place_ge.2 (mem_natsI.2 hm)
        simp only [decide_eq_true_eq] at hA
        omega
      have hB : decide (indexI (fun x => decide (x = (r : Int))) (natsI Rb) < 0) = false := by
        have h1 := place_ge.2 (mem_natsI.2 (hin.resolve_left hnA))
        simp only [decide_eq_false_iff_not]
        omega
      refine Cd.region ?_
      refine Ol.p mvs ?_
      refine Ol.p mvs ?_
      refine Ol.p mvi ?_
      refine Ol.p (ixn1 (ix := k) sl_L_int (Som.row (i := 0) rfl (by omega))) ?_
      refine Ol.p (ld one_int (Rd.row (i := 0) rfl hrv)) ?_
      refine Ol.s (cl en_law10_place (fun M w' hh => law10_place_nat (l := Ra) (n := (r : Int)) (Reads.row hh (i := 3) rfl) hla)) ?_
      refine Ol.p lsi ?_
      refine Ol.p mvb ?_
      refine Ol.gp hA mvs ?_
      refine Ol.gp hA mvs ?_
      refine Ol.gp hA mvi ?_
      refine Ol.gp hA (ixn1 (ix := k) sl_L_int (Som.row (i := 0) rfl (by omega))) ?_
      refine Ol.gp hA (ld one_int (Rd.row (i := 0) rfl hrv)) ?_
      refine Ol.gs hA (cl en_law10_place (fun M w' hh => law10_place_nat (l := Rb) (n := (r : Int)) (Reads.row hh (i := 2) rfl) hlb)) ?_
      refine Ol.gp hA lsi ?_
      refine Ol.p (pkTb hA) ?_
      refine Ol.nil ?_
      refine Cd.cond rfl (fun h => by rw [hB] at h; cases h) (fun h => ?_)   -- $179
      refine Cd.skip ?_
      refine Cd.region ?_
      refine Ol.p mvi ?_
      refine Ol.p addi ?_
      refine Ol.p asi ?_
      refine Ol.nil ?_
      exact ⟨Rc_.length - (k + 1), by omega, k + 1, rfl, by omega, ⟨rfl, rfl, rfl, rfl, rfl, rfl, rfl, rfl, rfl, trivial⟩, rfl⟩
  refine Cd.exit (id := 4) ?_
  refine Cd.seq ?_
  refine Cd.seq ?_
  refine Cd.region ?_
  refine Ol.p asi ?_
  refine Ol.nil ?_
  refine Cd.block ?_   -- 6
  refine Cd.loop (fun m σ L => ∃ k, m = Ra.length - k ∧ k ≤ Ra.length ∧ Has σ [(7, .slice A32 E.length c32), (8, .slice A34 C.length c34), (9, .int .i64 C.length), (10, .int .i64 E.length), (11, .int .i64 E.length), (15, .slice A147 Ra.length c147), (17, .slice A157 Rc_.length c157), (19, .int .i64 k)] ∧ L1 = L) (n := Ra.length) ⟨0, rfl, Nat.zero_le _, ⟨rfl, rfl, rfl, rfl, rfl, rfl, rfl, rfl, trivial⟩, rfl⟩ ?_
  clear hs h hk
  rintro _ σ L ⟨k, rfl, hk, hs, rfl⟩
  refine Cd.has hs ?_
  refine Cd.seq ?_
  refine Cd.seq ?_
  refine Cd.region ?_
  refine Ol.p mvi ?_
  refine Ol.p mvs ?_
  refine Ol.p (lens sl_L_int) ?_
  refine Ol.p lsi ?_
  refine Ol.nil ?_
  refine Cd.cond rfl (fun h => ?_) (fun h => ?_)   -- $183
  · have hlt : k < Ra.length := by simpa using h
    obtain ⟨r, hr⟩ : ∃ r, Ra[k]? = some r := ⟨_, List.getElem?_eq_getElem hlt⟩
    have hrv : (intsN Ra)[k]? = some (.int .i64 (r : Int)) := intsN_get hr
    have hin : r ∈ Rc_ := by
      rw [hRc, reached_union]
      exact .inl (by rw [← hRa]; exact List.mem_of_getElem? hr)
    have h1 := place_ge.2 (mem_natsI.2 hin)
    refine Cd.skip ?_
    refine Cd.seq ?_
    refine Cd.block ?_   -- 7
    refine Cd.seq ?_
    subst hL1
    refine Cd.region ?_
    refine Ol.p mvs ?_
    refine Ol.p mvs ?_
    refine Ol.p mvi ?_
    refine Ol.p (ixn1 (ix := k) sl_L_int (Som.row (i := 3) rfl (by omega))) ?_
    refine Ol.p (ld one_int (Rd.row (i := 3) rfl hrv)) ?_
    refine Ol.s (cl en_law10_place (fun M w' hh => law10_place_nat (l := Rc_) (n := (r : Int)) (Reads.row hh (i := 0) rfl) hlc)) ?_
    refine Ol.p lsi ?_
    refine Ol.nil ?_
    refine Cd.cond rfl (fun h => ?_) (fun h => ?_)   -- $192
    · simp only [decide_eq_true_eq] at h
      omega
    refine Cd.skip ?_
    refine Cd.region ?_
    refine Ol.p mvi ?_
    refine Ol.p addi ?_
    refine Ol.p asi ?_
    refine Ol.nil ?_
    exact ⟨Ra.length - (k + 1), by omega, k + 1, rfl, by omega, ⟨rfl, rfl, rfl, rfl, rfl, rfl, rfl, rfl, trivial⟩, rfl⟩
  refine Cd.exit (id := 6) ?_
  have q1 : decide ((C.length : Int) = (C.length : Int)) = true := by simp
  have q2 : decide ((E.length : Int) = (E.length : Int)) = true := by simp
  refine Cd.seq ?_
  refine Cd.region ?_
  refine Ol.p mvi ?_
  refine Ol.p mvs ?_
  refine Ol.p (lens sl_L_api_Edge) ?_
  refine Ol.p eqi ?_
  refine Ol.p mvb ?_
  refine Ol.gp q1 mvi ?_
  refine Ol.gp q1 mvs ?_
  refine Ol.gp q1 (lens sl_L_api_Edge) ?_
  refine Ol.gp q1 eqi ?_
  refine Ol.p (pkTb q1) ?_
  refine Ol.p mvb ?_
  refine Ol.gp q2 mvi ?_
  refine Ol.gp q2 mvs ?_
  refine Ol.gp q2 (lens sl_L_api_Edge) ?_
  refine Ol.gp q2 eqi ?_
  refine Ol.p (pkTb q2) ?_
  refine Ol.p asb ?_
  refine Ol.nil ?_
  refine Cd.ret ⟨.bool _, ret1 rfl rfl, [], .nil, ?_, rfl⟩
  rw [q2]
end
end Go.Proofs.YtbcnejobnmljlaaDoor
