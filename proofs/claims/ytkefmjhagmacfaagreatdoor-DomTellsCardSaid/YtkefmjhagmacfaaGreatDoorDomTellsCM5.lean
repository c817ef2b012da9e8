/- DomTells (the tied card): for every input that can be read, the law DomTells returns true and its arguments read as before. Conditions: the row, its listed table of math/bits tied to the text of the program. -/
/- Part 5 of the proof of DomTellsC: the texts Dom3, DomTells, OpenL, OpenF, DomTellsC, one behind the other. -/
import Derived.Deep.Slices
import Derived.Test.YtkefmjhagmacfaaGreatDoorCards
import Derived.Test.YtkefmjhagmacfaaGreatDoorTie
import Derived.SevenTiedAt
import Derived.Test.YtkefmjhagmacfaaGreatDoorDomTellsCM4
/- Dominators: Below and Back, walked. -/
namespace Go.Proofs.YtkefmjhagmacfaaGreatDoor
set_option linter.unusedVariables false
set_option linter.unusedSimpArgs false
open Go Go.RowKit
set_option maxRecDepth 100000
theorem belowN_contains (ts : List Tm) (a : Int) (n i : Nat) : (belowN ts a n).contains i = (decide (i < n) && overF ts a (i : Int)) := by
  rw [Bool.eq_iff_iff, List.contains_iff_mem]
  unfold belowN
  rw [List.mem_filter, List.mem_range, Bool.and_eq_true, decide_eq_true_eq]
theorem listS_below {ts : List Tm} {a : Int} {n : Nat} (hn : n ≤ 1024) : listS (ofL (natL (belowN ts a n))) = belowN ts a n := by
  have hb := belowN_contains ts a n
  have e : 1024 = n + (1024 - n) := by omega
  unfold listS upto
  rw [e]
  refine filter_range (fun i hi => ?_) (fun i hi => ?_) _
  · rw [testBit_ofL, natL_contains, (okN_iff (n := (i : Int))).2 ⟨by omega, by omega⟩, Bool.true_and, hb, decide_eq_true hi, Bool.true_and]
  · rw [testBit_ofL, natL_contains, hb, decide_eq_false (by omega : ¬ i < n), Bool.false_and, Bool.and_false]
theorem ofL_snoc (l : List Nat) (x : Nat) : ofL (natL (l ++ [x])) = withL (ofL (natL l)) [(x : Int)] := by
  unfold ofL withL
  rw [natL_app, List.foldl_append]
  rfl
section
set_option maxHeartbeats 2000000 in
theorem dom_Below_ct {w : World} {f : RFun} {a : Int} (hT : Tabs w w.heap.size) (hf : FunAt w w.heap.size f) (hfit : Fit f) (hbl : f.blocks.length ≤ 500) : Ct Tryz.prog 38 #[f.val, .int .i64 a] w (NewL 3 1 (belowN f.terms a f.blocks.length).length (intsN (belowN f.terms a f.blocks.length))) := by
  have htl : f.terms.length = f.blocks.length := by simp [RFun.terms]
  refine Ct.mk Tryz.func38 rfl rfl ?_
  refine Cd.seq ?_
  refine Cd.region ?_
  refine Ol.x bxg ?_
  rintro _ _ ⟨g2, rfl, rfl⟩
  refine Ol.p ass ?_
  refine Ol.nil ?_
  refine Cd.seq ?_
  refine Cd.region ?_
  refine Ol.p (ldw (cs := f.cells.toArray) ag_api_Func (i := 0) rfl rfl) ?_
  refine Ol.x (sp_call (vs := [f.val]) en_dom_made (fun M w' hh => dom_made_ct (hf.now hh) hfit)) ?_
  rintro _ _ ⟨_, rfl, ⟨hc, rfl, rfl⟩ | ⟨hc, hd, gU, gP, rfl, rfl⟩⟩
  · skip
    refine Ol.x (alc zr_dom_tree) ?_
    rintro _ _ ⟨g5, rfl, rfl⟩
    refine Ol.s (stw (vs := #[.slice none 0 0, .slice none 0 0]) sz_dom_tree rfl (by intro u hu; simp at hu; subst hu; rfl) (i := 0) rfl rfl) ?_
    refine Ol.nil ?_
    refine Cd.seq ?_
    refine Cd.region ?_
    refine Ol.x (alc zr_bits_Set) ?_
    rintro _ _ ⟨g6, rfl, rfl⟩
    refine Ol.nil ?_
    refine Cd.seq ?_
    refine Cd.seq ?_
    refine Cd.region ?_
    refine Ol.p (fdl fd_dom_tree_0) ?_
    refine Ol.p (ld (v := .slice none 0 0) one_L_int (Rd.blk (i := 1) rfl rfl)) ?_
    refine Ol.p (lens sl_L_int) ?_
    refine Ol.p mvi ?_
    refine Ol.nil ?_
    refine Cd.keep (L' := [blk g6 (.cells (enc 0) 70)]) (by rw [enc0]; exact .sub (.cons_cons _ (List.nil_sublist _))) ?_
    refine Cd.block ?_   -- 0
    refine Cd.loop (fun m σ L => m = 0 ∧ Has σ [(6, .pointer (some ⟨g6, 0, none⟩)), (12, .int .i64 ((0 : Nat) : Int)), (13, .int .i64 0)] ∧ [blk g6 (.cells (enc 0) 70)] = L) (n := 0) ⟨rfl, ⟨rfl, rfl, rfl, trivial⟩, rfl⟩ ?_
    rintro _ σ L ⟨rfl, hs, rfl⟩
    refine Cd.has hs ?_
    clear hs
    refine Cd.seq ?_
    refine Cd.region ?_
    refine Ol.p lsi ?_
    refine Ol.nil ?_
    refine Cd.seq ?_
    refine Cd.cond rfl (fun h => nomatch h) (fun h => ?_)   -- $14
    refine Cd.exit (id := 0) ?_
    refine Cd.seq ?_
    refine Cd.region ?_
    refine Ol.p (ldw (cs := enc 0) ag_bits_Set (i := 0) rfl (enc_size _)) ?_
    refine Ol.x (sp_call (vs := [.agg (enc 0)]) en_bits_Set_List (fun M w' hh => bits_Set_List_ct (s := 0) (hT.now hh))) ?_
    rintro _ _ ⟨_, rfl, A26, c26, rfl, rfl⟩
    refine Ol.p ass ?_
    refine Ol.nil ?_
    have e0 := listS_below (ts := f.terms) (a := a) (n := f.blocks.length) (by omega)
    rw [belowN_no hc] at e0 ⊢
    have e1 : listS 0 = [] := e0
    rw [e1]
    exact Cd.ret ⟨.slice A26 0 c26, ret1 rfl rfl, _, .sub (.cons_cons _ (List.nil_sublist _)), A26, c26, rfl, rfl⟩
  · skip
    refine Ol.x (alc zr_dom_tree) ?_
    rintro _ _ ⟨g5, rfl, rfl⟩
    refine Ol.s (stw (vs := #[.slice (some ⟨gU, 0, none⟩) f.terms.length f.terms.length, .slice (some ⟨gP, 0, none⟩) f.terms.length f.terms.length]) sz_dom_tree rfl (by intro u hu; simp at hu; rcases hu with rfl | rfl <;> rfl) (i := 0) rfl rfl) ?_
    refine Ol.nil ?_
    refine Cd.seq ?_
    refine Cd.region ?_
    refine Ol.x (alc zr_bits_Set) ?_
    rintro _ _ ⟨g6, rfl, rfl⟩
    refine Ol.nil ?_
    refine Cd.seq ?_
    refine Cd.seq ?_
    refine Cd.region ?_
    refine Ol.p (fdl fd_dom_tree_0) ?_
    refine Ol.p (ld (v := .slice (some ⟨gU, 0, none⟩) f.terms.length f.terms.length) one_L_int (Rd.blk (i := 1) rfl rfl)) ?_
    refine Ol.p (lens sl_L_int) ?_
    refine Ol.p mvi ?_
    refine Ol.nil ?_
    refine Cd.keep (L' := [blk g6 (.cells (enc 0) 70), blk g5 (.cells #[.slice (some ⟨gU, 0, none⟩) f.terms.length f.terms.length, .slice (some ⟨gP, 0, none⟩) f.terms.length f.terms.length] 103), blk gP (.cells (ints (plL f.terms)).toArray 3), blk gU (.cells (ints (domL f.terms)).toArray 3)]) (by rw [enc0]; exact .sub (.cons_cons _ (.cons_cons _ (.cons_cons _ (.cons_cons _ (List.nil_sublist _)))))) ?_
    refine Cd.block ?_   -- 0
    refine Cd.loop (fun m σ L => ∃ k : Nat, m = f.terms.length - k ∧ k ≤ f.terms.length ∧ Has σ [(1, .int .i64 a), (5, .pointer (some ⟨g5, 0, none⟩)), (6, .pointer (some ⟨g6, 0, none⟩)), (12, .int .i64 f.terms.length), (13, .int .i64 k)] ∧ [blk g6 (.cells (enc (ofL (natL (belowN f.terms a k)))) 70), blk g5 (.cells #[.slice (some ⟨gU, 0, none⟩) f.terms.length f.terms.length, .slice (some ⟨gP, 0, none⟩) f.terms.length f.terms.length] 103), blk gP (.cells (ints (plL f.terms)).toArray 3), blk gU (.cells (ints (domL f.terms)).toArray 3)] = L) (n := f.terms.length) ⟨0, rfl, Nat.zero_le _, ⟨rfl, rfl, rfl, rfl, rfl, trivial⟩, rfl⟩ ?_
    rintro _ σ L ⟨k, rfl, hk, hs, rfl⟩
    refine Cd.has hs ?_
    clear hs
    refine Cd.seq ?_
    refine Cd.region ?_
    refine Ol.p lsi ?_
    refine Ol.nil ?_
    refine Cd.seq ?_
    refine Cd.cond rfl (fun h => ?_) (fun h => ?_)   -- $14
    · have hlt : k < f.terms.length := lt_of h
      refine Cd.skip ?_
      refine Cd.mid (fun σ' L' => Has σ' [(1, .int .i64 a), (5, .pointer (some ⟨g5, 0, none⟩)), (6, .pointer (some ⟨g6, 0, none⟩)), (12, .int .i64 f.terms.length), (13, .int .i64 k)] ∧ [blk g6 (.cells (enc (ofL (natL (belowN f.terms a (k + 1))))) 70), blk g5 (.cells #[.slice (some ⟨gU, 0, none⟩) f.terms.length f.terms.length, .slice (some ⟨gP, 0, none⟩) f.terms.length f.terms.length] 103), blk gP (.cells (ints (plL f.terms)).toArray 3), blk gU (.cells (ints (domL f.terms)).toArray 3)] = L') ?_ ?_
      · skip
        refine Cd.block ?_   -- 1
        refine Cd.seq ?_
        refine Cd.region ?_
        refine Ol.p mvi ?_
        refine Ol.p asi ?_
        refine Ol.nil ?_
        refine Cd.seq ?_
        refine Cd.region ?_
        refine Ol.p (ldw (cs := #[.slice (some ⟨gU, 0, none⟩) f.terms.length f.terms.length, .slice (some ⟨gP, 0, none⟩) f.terms.length f.terms.length]) ag_dom_tree (i := 1) rfl rfl) ?_
        refine Ol.p mvi ?_
        refine Ol.p mvi ?_
        refine Ol.s (cl (v := .bool (overF f.terms a (k : Int))) en_dom_tree_over (fun M w' hh => by have := dom_over_ct (w := w') (ul := domL f.terms) (pl := plL f.terms) (AU := some ⟨gU, 0, none⟩) (AP := some ⟨gP, 0, none⟩) (cU := f.terms.length) (cP := f.terms.length) (a := a) (b := (k : Int)) (Reads.blk hh (i := 3) rfl (by simp [ints]) (fun j u hu => by simpa using hu)) (Reads.blk hh (i := 2) rfl (by simp [ints]) (fun j u hu => by simpa using hu)) (by rw [plL_len]; have := (closed_le hc).2; omega) (fun _ => Up.of hc hd) (by have := (closed_le hc).2; omega); rw [hd.1, plL_len, ← overF_ups hc] at this; exact this)) ?_
        refine Ol.nil ?_
        refine Cd.cond rfl (fun h => ?_) (fun h => ?_)   -- $19
        · have h : overF f.terms a (k : Int) = true := h
          refine Cd.region ?_
          refine Ol.p (ldw (cs := enc (ofL (natL (belowN f.terms a k)))) ag_bits_Set (i := 0) rfl (enc_size _)) ?_
          refine Ol.p mvi ?_
          refine Ol.x (bsv (ints [(k : Int)]) sl_L_int zr_int (by simp [ints, Value.cells])) ?_
          rintro _ _ ⟨g22, rfl, rfl⟩
          refine Ol.s (cl (v := .agg (enc (withL (ofL (natL (belowN f.terms a k))) [(k : Int)]))) en_bits_Set_With (fun M w' hh => bits_Set_With_ct (l := [(k : Int)]) (Reads.row hh (i := 0) rfl) (by intro x hx; simp at hx; subst hx; unfold I64; have := (closed_le hc).2; omega) (by simp))) ?_
          refine Ol.s (stw sz_bits_Set (enc_size _) (encF_one _) (i := 1) rfl (enc_size _)) ?_
          refine Ol.keep (.sub (.cons _ (List.Sublist.refl _))) ?_
          refine Ol.nil ?_
          refine ⟨⟨rfl, rfl, rfl, rfl, rfl, trivial⟩, ?_⟩
          rw [belowN_succ, if_pos h, ofL_snoc]
          rfl
        have h : overF f.terms a (k : Int) = false := h
        refine Cd.skip ?_
        refine ⟨⟨rfl, rfl, rfl, rfl, rfl, trivial⟩, ?_⟩
        rw [belowN_succ, if_neg (by rw [h]; simp), List.append_nil]
      rintro σ' _ ⟨hs', rfl⟩
      refine Cd.has hs' ?_
      refine Cd.region ?_
      refine Ol.p addi ?_
      refine Ol.p mvi ?_
      refine Ol.nil ?_
      exact ⟨f.terms.length - (k + 1), by omega, k + 1, rfl, by omega, ⟨rfl, rfl, rfl, rfl, rfl, trivial⟩, rfl⟩
    have hke : k = f.terms.length := by
      have := ge_of_ h
      omega
    refine Cd.exit (id := 0) ?_
    refine Cd.seq ?_
    refine Cd.region ?_
    refine Ol.p (ldw (cs := enc (ofL (natL (belowN f.terms a k)))) ag_bits_Set (i := 0) rfl (enc_size _)) ?_
    refine Ol.x (sp_call (vs := [.agg (enc (ofL (natL (belowN f.terms a k))))]) en_bits_Set_List (fun M w' hh => bits_Set_List_ct (s := ofL (natL (belowN f.terms a k))) (hT.now hh))) ?_
    rintro _ _ ⟨_, rfl, A26, c26, rfl, rfl⟩
    refine Ol.p ass ?_
    refine Ol.nil ?_
    rw [hke, htl, listS_below (by omega)]
    exact Cd.ret ⟨.slice A26 _ c26, ret1 rfl rfl, _, .sub (.cons_cons _ (List.nil_sublist _)), A26, c26, rfl, rfl⟩
end
section
theorem dom_ring_ct {w : World} {AU AP : Option Addr} {cU cP N : Nat} {ul pl : List Int} {G : Gra} {e : Ed} (hU : Reads w w.heap.size 1 AU ul.length (ints ul)) (hP : Reads w w.heap.size 1 AP pl.length (ints pl)) (hpn : pl.length < 2 ^ 50) (h : inP pl e.src = true → Up ul pl N G) (hb : -9223372036854775808 ≤ e.src ∧ e.src ≤ 9223372036854775807) :
    Ct Tryz.prog 78 #[treeV AU AP ul.length pl.length cU cP, e.val] w (Is (.bool ((upsC ul pl N e.src).any fun d => decide ((d : Int) = e.to)))) := by
  refine Ct.mk Tryz.func78 rfl rfl ?_
  refine Cd.seq ?_
  refine Cd.region ?_
  refine Ol.x bxg ?_
  rintro _ _ ⟨g2, rfl, rfl⟩
  refine Ol.x bxg ?_
  rintro _ _ ⟨g3, rfl, rfl⟩
  refine Ol.p asb ?_
  refine Ol.nil ?_
  refine Cd.seq ?_
  refine Cd.region ?_
  refine Ol.p (ldw (cs := #[.slice AU ul.length cU, .slice AP pl.length cP]) ag_dom_tree (i := 1) rfl rfl) ?_
  refine Ol.p (fdl fd_api_Edge_2) ?_
  refine Ol.p (ld (v := .int .i64 e.to) one_int (Rd.blk (i := 0) rfl rfl)) ?_
  refine Ol.p (fdl fd_api_Edge_0) ?_
  refine Ol.p (ld (v := .int .i64 e.src) one_int (Rd.blk (i := 0) rfl rfl)) ?_
  refine Ol.s (cl (v := .bool ((upsC ul pl N e.src).any fun d => decide ((d : Int) = e.to))) en_dom_tree_over (fun M w' hh => dom_over_ct (a := e.to) (hU.now hh) (hP.now hh) hpn h hb)) ?_
  refine Ol.p asb ?_
  refine Ol.nil ?_
  exact Cd.ret ⟨.bool _, ret1 rfl rfl, [], .nil, rfl, rfl⟩
set_option maxHeartbeats 2000000 in
theorem dom_Back_ct {w : World} {f : RFun} (hf : FunAt w w.heap.size f) (hfit : Fit f) : Ct Tryz.prog 43 #[f.val] w (NewL 58 3 (backE f.terms).length (edV (backE f.terms))) := by
  have htl : f.terms.length = f.blocks.length := by simp [RFun.terms]
  refine Ct.mk Tryz.func43 rfl rfl ?_
  refine Cd.seq ?_
  refine Cd.region ?_
  refine Ol.x bxg ?_
  rintro _ _ ⟨g1, rfl, rfl⟩
  refine Ol.p ass ?_
  refine Ol.nil ?_
  refine Cd.seq ?_
  refine Cd.region ?_
  refine Ol.p (ldw (cs := f.cells.toArray) ag_api_Func (i := 0) rfl rfl) ?_
  refine Ol.x (sp_call (vs := [f.val]) en_dom_made (fun M w' hh => dom_made_ct (hf.now hh) hfit)) ?_
  rintro _ _ ⟨_, rfl, ⟨hc, rfl, rfl⟩ | ⟨hc, hd, gU, gP, rfl, rfl⟩⟩
  · skip
    refine Ol.p mkf ?_
    refine Ol.p asf ?_
    refine Ol.nil ?_
    refine Cd.seq ?_
    refine Cd.seq ?_
    refine Cd.region ?_
    refine Ol.p (ldw (cs := f.cells.toArray) ag_api_Func (i := 0) rfl rfl) ?_
    refine Ol.x (sp_call (vs := [f.val]) en_flow_Edges (fun M w' hh => flow_Edges_ct (hf.now hh) hfit)) ?_
    rintro _ _ ⟨_, rfl, A10, c10, rfl, rfl⟩
    refine Ol.p (lens sl_L_api_Edge) ?_
    refine Ol.p mvi ?_
    refine Ol.nil ?_
    have e0 : (someE f.terms fun _ => true) = [] := by unfold someE; rw [hc]; rfl
    have e1 : backE f.terms = [] := by unfold backE; rw [e0]; rfl
    rw [e0, e1]
    refine Cd.nr 58 3 ?_
    refine Cd.keep (L' := [row (.slice none 0 0) 58 3 0 []]) (.sub (.cons_cons _ (List.nil_sublist _))) ?_
    refine Cd.block ?_   -- 0
    refine Cd.loop (fun m σ L => m = 0 ∧ Has σ [(2, .slice none 0 0), (11, .int .i64 ((0 : Nat) : Int)), (12, .int .i64 0)] ∧ [row (.slice none 0 0) 58 3 0 []] = L) (n := 0) ⟨rfl, ⟨rfl, rfl, rfl, trivial⟩, rfl⟩ ?_
    rintro _ σ L ⟨rfl, hs, rfl⟩
    refine Cd.has hs ?_
    clear hs
    refine Cd.seq ?_
    refine Cd.region ?_
    refine Ol.p lsi ?_
    refine Ol.nil ?_
    refine Cd.seq ?_
    refine Cd.cond rfl (fun h => nomatch h) (fun h => ?_)   -- $13
    refine Cd.exit (id := 0) ?_
    refine Cd.seq ?_
    refine Cd.region ?_
    refine Ol.p mvs ?_
    refine Ol.p ass ?_
    refine Ol.nil ?_
    exact Cd.ret ⟨.slice none 0 0, ret1 rfl rfl, _, .sub (.cons_cons _ (List.nil_sublist _)), none, 0, rfl, rfl⟩
  · skip
    refine Ol.p mkf ?_
    refine Ol.p asf ?_
    refine Ol.nil ?_
    refine Cd.seq ?_
    refine Cd.seq ?_
    refine Cd.region ?_
    refine Ol.p (ldw (cs := f.cells.toArray) ag_api_Func (i := 2) rfl rfl) ?_
    refine Ol.x (sp_call (vs := [f.val]) en_flow_Edges (fun M w' hh => flow_Edges_ct (hf.now hh) hfit)) ?_
    rintro _ _ ⟨_, rfl, A10, c10, rfl, rfl⟩
    refine Ol.p (lens sl_L_api_Edge) ?_
    refine Ol.p mvi ?_
    refine Ol.nil ?_
    have hE4 := someE_len_le f.terms fun _ => true
    have hEe : ∀ e ∈ someE f.terms (fun _ => true), -9223372036854775808 ≤ e.src ∧ e.src ≤ 9223372036854775807 := fun e he => by
      have hem : e ∈ edges f.terms := by
        unfold someE at he
        rw [hc] at he
        simpa using he
      obtain ⟨x1, x2, x3, x4⟩ := edge_to hc hem
      have := src_range hem
      have := (closed_le hc).2
      omega
    have hres : backE f.terms = (someE f.terms fun _ => true).filter fun e => overF f.terms e.to e.src := rfl
    rw [hres]
    obtain ⟨p, hp⟩ : ∃ p : Ed → Bool, p = fun e => overF f.terms e.to e.src := ⟨_, rfl⟩
    have hpe : ∀ e : Ed, p e = overF f.terms e.to e.src := fun e => by rw [hp]
    rw [← hp]
    clear hres
    obtain ⟨E, hE⟩ : ∃ E, E = someE f.terms fun _ => true := ⟨_, rfl⟩
    rw [← hE] at hE4 hEe ⊢
    refine Cd.nr 58 3 ?_
    refine Cd.keep (L' := [row (.slice none 0 0) 58 3 0 [], row (.slice A10 E.length c10) 58 3 E.length (edV E), blk gP (.cells (ints (plL f.terms)).toArray 3), blk gU (.cells (ints (domL f.terms)).toArray 3)]) (.sub (.cons_cons _ (.cons_cons _ (.cons_cons _ (.cons_cons _ (List.nil_sublist _)))))) ?_
    refine Cd.block ?_   -- 0
    refine Cd.loop (fun m σ L => ∃ (k : Nat) (A' : Option Addr) (c' m' : Nat), m = E.length - k ∧ k ≤ E.length ∧ m' = ((E.take k).filter p).length ∧ Has σ [(2, .slice A' m' c'), (3, .func (.func 78) #[treeV (some ⟨gU, 0, none⟩) (some ⟨gP, 0, none⟩) f.terms.length f.terms.length f.terms.length f.terms.length] #[]), (10, .slice A10 E.length c10), (11, .int .i64 E.length), (12, .int .i64 k)] ∧ [row (.slice A' m' c') 58 3 m' (edV ((E.take k).filter p)), row (.slice A10 E.length c10) 58 3 E.length (edV E), blk gP (.cells (ints (plL f.terms)).toArray 3), blk gU (.cells (ints (domL f.terms)).toArray 3)] = L) (n := E.length) ⟨0, none, 0, 0, rfl, Nat.zero_le _, rfl, ⟨rfl, rfl, rfl, rfl, rfl, trivial⟩, rfl⟩ ?_
    rintro _ σ L ⟨k, A', c', m', rfl, hk, hm, hs, rfl⟩
    refine Cd.has hs ?_
    clear hs
    refine Cd.seq ?_
    refine Cd.region ?_
    refine Ol.p lsi ?_
    refine Ol.nil ?_
    refine Cd.seq ?_
    refine Cd.cond rfl (fun h => ?_) (fun h => ?_)   -- $13
    · have hlt := lt_of h
      obtain ⟨e, he⟩ : ∃ e, E[k]? = some e := ⟨_, List.getElem?_eq_getElem hlt⟩
      have her := hEe e (List.mem_of_getElem? he)
      have hpt := hpe e
      have hnk : m' ≤ k := by rw [hm]; exact Nat.le_trans (List.length_filter_le _ _) (by simp; omega)
      have hsn : (E.take (k + 1)).filter p = (E.take k).filter p ++ (if p e = true then [e] else []) := by
        rw [take_snoc_ he, List.filter_append]
        congr 1
        by_cases hp : p e = true <;> simp [List.filter, hp]
      refine Cd.skip ?_
      refine Cd.mid (fun σ' L' => ∃ (A' : Option Addr) (c' m' : Nat), m' = ((E.take (k + 1)).filter p).length ∧ Has σ' [(2, .slice A' m' c'), (3, .func (.func 78) #[treeV (some ⟨gU, 0, none⟩) (some ⟨gP, 0, none⟩) f.terms.length f.terms.length f.terms.length f.terms.length] #[]), (10, .slice A10 E.length c10), (11, .int .i64 E.length), (12, .int .i64 k)] ∧ Keep L' [row (.slice A' m' c') 58 3 m' (edV ((E.take (k + 1)).filter p)), row (.slice A10 E.length c10) 58 3 E.length (edV E), blk gP (.cells (ints (plL f.terms)).toArray 3), blk gU (.cells (ints (domL f.terms)).toArray 3)]) ?_ ?_
      · skip
        refine Cd.block ?_   -- 1
        refine Cd.seq ?_
        refine Cd.region ?_
        refine Ol.p (ixn (ix := k) sl_L_api_Edge (Som.row (i := 1) rfl (by omega))) ?_
        refine Ol.p (ldr (es := e.cells) ag_api_Edge (i := 1) rfl e.len (fun j u hu => edV_at he hu)) ?_
        refine Ol.x (alc zr_api_Edge) ?_
        rintro _ _ ⟨g5, rfl, rfl⟩
        refine Ol.s (stw sz_api_Edge rfl e.one (i := 0) rfl rfl) ?_
        refine Ol.nil ?_
        refine Cd.seq ?_
        refine Cd.region ?_
        refine Ol.p mvf ?_
        refine Ol.p (ldw (cs := e.cells.toArray) ag_api_Edge (i := 0) rfl rfl) ?_
        refine Ol.x (sp_callv (fst := #[treeV (some ⟨gU, 0, none⟩) (some ⟨gP, 0, none⟩) f.terms.length f.terms.length f.terms.length f.terms.length]) (vs := [e.val]) (cap := #[]) (R := Is (.bool (p e))) en_dom_tree_ring (fun M w' hh => by have := dom_ring_ct (w := w') (e := e) (ul := domL f.terms) (pl := plL f.terms) (AU := some ⟨gU, 0, none⟩) (AP := some ⟨gP, 0, none⟩) (cU := f.terms.length) (cP := f.terms.length) (Reads.blk hh (i := 4) rfl (by simp [ints]) (fun j u hu => by simpa using hu)) (Reads.blk hh (i := 3) rfl (by simp [ints]) (fun j u hu => by simpa using hu)) (by rw [plL_len]; have := (closed_le hc).2; omega) (fun _ => Up.of hc hd) her; rw [hd.1, plL_len, ← overF_ups hc, ← hpt] at this; exact this)) ?_
        rintro _ _ ⟨_, rfl, rfl, rfl⟩
        refine Ol.nil ?_
        refine Cd.cond rfl (fun h => ?_) (fun h => ?_)   -- $18
        · have h : p e = true := h
          refine Cd.region ?_
          refine Ol.p mvs ?_
          refine Ol.p (ldw (cs := e.cells.toArray) ag_api_Edge (i := 0) rfl rfl) ?_
          refine Ol.x (bsn [e.val] sl_L_api_Edge zr_api_Edge (by intro v hv; cases hv with | head => rfl | tail _ h => cases h) rfl (by decide) (by decide)) ?_
          rintro _ _ ⟨g21, rfl, rfl⟩
          refine Ol.x (apn (i := 2) (n := m') (m := 1) sl_L_api_Edge zr_api_Edge rfl (by decide) rfl (Src.row (i := 0) rfl rfl) e.one1 (by unfold maxLen; omega) (by omega)) ?_
          rintro _ _ ⟨A2, c2, rfl, rfl⟩
          refine Ol.p ass ?_
          refine Ol.nil ?_
          refine ⟨A2, c2, m' + 1, ?_, ⟨rfl, rfl, rfl, rfl, rfl, trivial⟩, ?_⟩
          · rw [hsn, if_pos h, List.length_append, ← hm]; rfl
          · rw [hsn, if_pos h, edV_app]
            exact .sub (.cons _ (.cons _ (List.Sublist.refl _)))
        have h : p e = false := h
        refine Cd.skip ?_
        refine ⟨A', c', m', ?_, ⟨rfl, rfl, rfl, rfl, rfl, trivial⟩, ?_⟩
        · rw [hsn, if_neg (by rw [h]; simp), List.append_nil]; exact hm
        · rw [hsn, if_neg (by rw [h]; simp), List.append_nil]
          exact .sub (.cons _ (List.Sublist.refl _))
      rintro σ' L' ⟨A', c', m', hm', hs', hkp⟩
      refine Cd.keep hkp ?_
      refine Cd.has hs' ?_
      refine Cd.region ?_
      refine Ol.p addi ?_
      refine Ol.p mvi ?_
      refine Ol.nil ?_
      exact ⟨E.length - (k + 1), by omega, k + 1, A', c', m', rfl, by omega, hm', ⟨rfl, rfl, rfl, rfl, rfl, trivial⟩, rfl⟩
    have hke : k = E.length := by
      have := ge_of_ h
      omega
    refine Cd.exit (id := 0) ?_
    refine Cd.seq ?_
    refine Cd.region ?_
    refine Ol.p mvs ?_
    refine Ol.p ass ?_
    refine Ol.nil ?_
    rw [hke, List.take_length] at hm ⊢
    rw [← hm]
    exact Cd.ret ⟨.slice A' m' c', ret1 rfl rfl, _, .sub (.cons_cons _ (List.nil_sublist _)), A', c', rfl, rfl⟩
end
end Go.Proofs.YtkefmjhagmacfaaGreatDoor

/- The law 11: DomTells, walked. -/
namespace Go.Proofs.YtkefmjhagmacfaaGreatDoor
set_option linter.unusedVariables false
set_option linter.unusedSimpArgs false
open Go Go.RowKit
set_option maxRecDepth 100000
section
theorem law11_same_ct {w : World} {A B : Option Addr} {c d : Nat} {a b : List Ed} (ha : Reads w w.heap.size 3 A a.length (edV a)) (hb : Reads w w.heap.size 3 B b.length (edV b)) (hal : a.length < 2 ^ 40) (hbl : b.length < 2 ^ 40) :
    Ct Tryz.prog 42 #[.slice A a.length c, .slice B b.length d] w (Is (.bool (decide (a = b)))) := by
  refine Ct.mk Tryz.func42 rfl rfl ?_
  refine Cd.seq ?_
  refine Cd.region ?_
  refine Ol.p asb ?_
  refine Ol.nil ?_
  refine Cd.seq ?_
  refine Cd.seq ?_
  refine Cd.region ?_
  refine Ol.p mvs ?_
  refine Ol.p (lens sl_L_api_Edge) ?_
  refine Ol.p mvs ?_
  refine Ol.p (lens sl_L_api_Edge) ?_
  refine Ol.p nei ?_
  refine Ol.nil ?_
  refine Cd.cond rfl (fun h => ?_) (fun h => ?_)
  · have h : (!decide ((a.length : Int) = (b.length : Int))) = true := h
    have hne : a ≠ b := fun e => by rw [e] at h; simp at h
    rw [decide_eq_false hne]
    refine Cd.seq ?_
    refine Cd.region ?_
    refine Ol.p asb ?_
    refine Ol.nil ?_
    exact Cd.ret ⟨.bool false, ret1 rfl rfl, [], .nil, rfl, rfl⟩
  have hl : a.length = b.length := by
    have h : (!decide ((a.length : Int) = (b.length : Int))) = false := h
    have : (a.length : Int) = (b.length : Int) := by simpa using h
    omega
  refine Cd.skip ?_
  refine Cd.seq ?_
  refine Cd.seq ?_
  refine Cd.region ?_
  refine Ol.p asi ?_
  refine Ol.nil ?_
  refine Cd.block ?_   -- 0
  refine Cd.loop (fun m σ L => ∃ k, m = a.length - k ∧ k ≤ a.length ∧ a.take k = b.take k ∧ Has σ [(0, .slice A a.length c), (1, .slice B b.length d), (5, .int .i64 k)] ∧ [] = L) (n := a.length) ⟨0, rfl, Nat.zero_le _, by simp, ⟨rfl, rfl, rfl, trivial⟩, rfl⟩ ?_
  rintro _ σ L ⟨k, rfl, hk, hkk, hs, rfl⟩
  refine Cd.has hs ?_
  clear hs
  refine Cd.seq ?_
  refine Cd.seq ?_
  refine Cd.region ?_
  refine Ol.p mvi ?_
  refine Ol.p mvs ?_
  refine Ol.p (lens sl_L_api_Edge) ?_
  refine Ol.p lsi ?_
  refine Ol.nil ?_
  refine Cd.cond rfl (fun h => ?_) (fun h => ?_)
  · have hlt := lt_of h
    obtain ⟨x, hx⟩ : ∃ x, a[k]? = some x := ⟨_, List.getElem?_eq_getElem hlt⟩
    obtain ⟨y, hy⟩ : ∃ y, b[k]? = some y := ⟨_, List.getElem?_eq_getElem (by omega)⟩
    refine Cd.skip ?_
    refine Cd.seq ?_
    refine Cd.block ?_
    refine Cd.seq ?_
    refine Cd.draw mixed 9 (fun _ => none) (fun _ => []) (by kernel_rfl) (fun _ _ h => by cases h) (fun u hu => ?_)
    refine Wk.p mvs ?_
    refine Wk.p mvi ?_
    refine Wk.p (ixn (ix := k) sl_L_api_Edge (Som.slc ha (by omega))) ?_
    refine Wk.p (lds (es := x.cells) ag_api_Edge ha x.len (fun j u hu => edV_at hx hu)) ?_
    refine Wk.p mvs ?_
    refine Wk.p mvi ?_
    refine Wk.p (ixn (ix := k) sl_L_api_Edge (Som.slc hb (by omega))) ?_
    refine Wk.p (lds (es := y.cells) ag_api_Edge hb y.len (fun j u hu => edV_at hy hu)) ?_
    refine Wk.p (nes (n := 3) (a := [x.src, x.arm, x.to]) (b := [y.src, y.arm, y.to]) st_api_Edge rfl rfl) ?_
    refine Wk.nil ?_
    refine Ol.nil ?_
    rw [ed_ints]
    refine Cd.cond rfl (fun h => ?_) (fun h => ?_)
    · have h : (!decide (x = y)) = true := h
      have hxy : x ≠ y := by simpa using h
      have hne : a ≠ b := fun e => by
        rw [e, hy] at hx
        exact hxy (Option.some.inj hx).symm
      rw [decide_eq_false hne]
      refine Cd.seq ?_
      refine Cd.region ?_
      refine Ol.p asb ?_
      refine Ol.nil ?_
      exact Cd.ret ⟨.bool false, ret1 rfl rfl, [], .nil, rfl, rfl⟩
    have h : (!decide (x = y)) = false := h
    have hxy : x = y := by simpa using h
    refine Cd.skip ?_
    refine Cd.region ?_
    refine Ol.p mvi ?_
    refine Ol.p addi ?_
    refine Ol.p asi ?_
    refine Ol.nil ?_
    exact ⟨a.length - (k + 1), by omega, k + 1, rfl, by omega, by rw [take_snoc_ hx, take_snoc_ hy, hkk, hxy], ⟨rfl, rfl, rfl, trivial⟩, rfl⟩
  have hke : k = a.length := by
    have := ge_of_ h
    omega
  have hab : a = b := by
    rw [hke, List.take_length, hl, List.take_length] at hkk
    exact hkk
  rw [decide_eq_true hab]
  refine Cd.exit (id := 0) ?_
  refine Cd.seq ?_
  refine Cd.region ?_
  refine Ol.p asb ?_
  refine Ol.nil ?_
  exact Cd.ret ⟨.bool true, ret1 rfl rfl, [], .nil, rfl, rfl⟩
theorem law11_same_self {w : World} {A B : Option Addr} {c d : Nat} {a : List Ed} (ha : Reads w w.heap.size 3 A a.length (edV a)) (hb : Reads w w.heap.size 3 B a.length (edV a)) (hal : a.length ≤ 400) :
    Ct Tryz.prog 42 #[.slice A a.length c, .slice B a.length d] w (Is (.bool true)) := by
  have := law11_same_ct (c := c) (d := d) ha hb (by omega) (by omega)
  rw [decide_eq_true rfl] at this
  exact this
end
section
theorem dom_Of_ct3 {w : World} {f : RFun} {ol : List Int} (ho : ol = domO f.terms) (hf : FunAt w w.heap.size f) (hfit : Fit f) : Ct Tryz.prog 34 #[f.val] w (PartO ol) := by
  subst ho
  refine CallsIn.mono (dom_Of_ct hf hfit) fun e w' ⟨v, he, L, hh, hR⟩ => ⟨v, he, ?_⟩
  rcases hR with ⟨hc, rfl, rfl⟩ | ⟨hc, hd, g, rfl, rfl⟩
  · have e0 : domO f.terms = [] := by unfold domO; rw [hc]; rfl
    rw [e0]
    exact ⟨[row (.slice none 0 0) 3 1 0 []], Hp.nr (M := []) (L := []) hh, none, 0, _, rfl, rfl, fun k m => .inl ⟨rfl, rfl, rfl, rfl⟩, fun w0 B => RdS.nil⟩
  · have e0 : domO f.terms = domL f.terms := by unfold domO; rw [hc]; rfl
    have hl := hd.1
    rw [e0, ← hl]
    exact ⟨_, hh, some ⟨g, 0, none⟩, _, _, rfl, rfl, fun q m => .inr ⟨g, 0, _, rfl, rfl, Nat.le_refl _, by simp [ints], fun j hj => by omega⟩, fun w0 B => RdS.blk (i := 0) rfl (by simp [ints]) (fun j u hu => by simpa using hu)⟩
theorem kit_Apart2 {w0 : World} {B cL : Nat} {AL : Option Addr} {x y : Li} {R1 R2 : Res} (hx : ∀ k, OwnP k 0 x R1) (hy : ∀ k, OwnP k 0 y R2) (hs : x.n < 2 ^ 39 ∧ y.n < 2 ^ 39) :
    Cm Tryz.prog 29 #[.slice AL 2 cL] w0 B [row (.slice AL 2 cL) 22 1 2 [.slice x.A x.n x.c, .slice y.A y.n y.c], R1, R2] (Is (.bool true)) := fun M w hh => by
  have key : ∀ k, k < 2 → k = 0 ∨ k = 1 := fun k hk => by omega
  refine kit_ApartRes_cm (N := 2) (it := fun k => if k = 0 then x else y) (R0 := fun k => if k = 0 then R1 else R2) (by omega) ?_ ?_ M w hh
  · intro k hk
    rcases key k hk with rfl | rfl
    · exact hx 0
    · exact hy 1
  · intro k hk
    rcases key k hk with rfl | rfl
    · exact hs.1
    · exact hs.2
set_option maxHeartbeats 8000000 in
theorem law11_DomTells_ct {w : World} {f : RFun} {a b : Int} (hT : Tabs w w.heap.size) (hf : FunAt w w.heap.size f) (hfit : Fit f) (ha : -9223372036854775808 ≤ a ∧ a ≤ 9223372036854775807) (hbb : -9223372036854775808 ≤ b ∧ b ≤ 9223372036854775807) :
    Ct Tryz.prog 5 #[f.val, .int .i64 a, .int .i64 b] w (Is (.bool true)) := by
  refine Ct.mk Tryz.func5 rfl rfl ?_
  refine Cd.seq ?_
  refine Cd.region ?_
  refine Ol.x bxg ?_
  rintro _ _ ⟨g3, rfl, rfl⟩
  refine Ol.p asb ?_
  refine Ol.nil ?_
  refine Cd.seq ?_
  refine Cd.seq ?_
  refine Cd.region ?_
  refine Ol.p (ldw (cs := f.cells.toArray) ag_api_Func (i := 0) rfl rfl) ?_
  refine Ol.x (sp_call (vs := [f.val, .int .i64 120]) en_kit_FuncOf (fun M w' hh => kit_FuncOf_ct (hf.now hh) hfit (most := 120) (by decide))) ?_
  rintro _ _ ⟨_, rfl, N, rfl, hN1, hN2, rfl⟩
  refine Ol.p gti ?_
  refine Ol.nil ?_
  refine Cd.cond rfl (fun h => ?_) (fun h => ?_)
  · refine Cd.seq ?_
    refine Cd.region ?_
    refine Ol.s (cl en_law11_awake (fun M w' hh => law11_awake_ct)) ?_
    refine Ol.p asb ?_
    refine Ol.nil ?_
    exact Cd.ret ⟨.bool true, ret1 rfl rfl, [], Keep.nil, rfl, rfl⟩
  obtain hsz : f.sz ≤ 500 := by
    have h : decide ((120 : Int) < (N : Int)) = false := h
    have := of_decide_eq_false h
    have h2 := hN1 (by omega)
    omega
  clear h hN1 hN2
  have hbi : BlksIn w w.heap.size f.bA f.blocks := BlksIn.of_siz hf hsz (by omega)
  obtain ⟨hbl, hpl⟩ := siz_blen hsz
  have h40 : ∀ b ∈ f.blocks, ∀ i ∈ b.ins, i.args.length < 2 ^ 40 := fun b hb i hi => by
    have := siz_alen hsz b hb i hi
    omega
  refine Cd.skip ?_
  refine Cd.seq ?_
  refine Cd.region ?_
  refine Ol.p (ldw (cs := f.cells.toArray) ag_api_Func (i := 0) rfl rfl) ?_
  refine Ol.x (sp_call (vs := [f.val]) en_kit_LentFunc (fun M w' hh => kit_LentFunc_ct (hf.now hh) (by omega) (hbi.now hh) h40)) ?_
  rintro _ _ ⟨X, rfl, g, hb, rfl, hX⟩
  have hfc : FitC g := FitC.same hfit.c hb
  refine Ol.keep (L' := blk g3 (.cells f.cells.toArray 25) :: funLent g) ⟨[], by rw [List.append_nil]; exact List.perm_append_comm.trans (hX.cons _)⟩ ?_
  refine Ol.x (alc zr_api_Func) ?_
  rintro _ _ ⟨g7, rfl, rfl⟩
  refine Ol.s (stw (vs := g.cells.toArray) sz_api_Func rfl (by intro u hu; simp [RFun.cells] at hu; rcases hu with rfl | rfl <;> rfl) (i := 0) rfl rfl) ?_
  refine Ol.nil ?_
  obtain ⟨LB, hLB⟩ : ∃ LB, LB = blk g7 (.cells g.cells.toArray 25) :: blk g3 (.cells f.cells.toArray 25) :: funLent g := ⟨_, rfl⟩
  refine Cd.keep (L' := LB) (by rw [hLB]; exact .all) ?_
  have h7 : LB[0]? = some (blk g7 (.cells g.cells.toArray 25)) := by rw [hLB]; rfl
  have h3 : LB[1]? = some (blk g3 (.cells f.cells.toArray 25)) := by rw [hLB]; rfl
  have hQ : ∀ {M L : List Res} {w' : World}, (∀ r ∈ LB, r ∈ L) → Hp w w.heap.size (M ++ L) w' → LentAt w' w'.heap.size g := fun {M L w'} hs hh =>
    LentAt.own hh (fun r hr => hs r (by rw [hLB]; exact List.mem_cons_of_mem _ (List.mem_cons_of_mem _ hr)))
  have hts := siz_terms hb
  have hgl : g.blocks.length = f.blocks.length := by
    have := congrArg List.length hts
    simpa [RFun.terms] using this
  -- what each call tells
  obtain ⟨ol, hol⟩ : ∃ ol, ol = domO f.terms := ⟨_, rfl⟩
  obtain ⟨ov, hov⟩ : ∃ ov, ov = overF f.terms a b := ⟨_, rfl⟩
  obtain ⟨bl, hbl2⟩ : ∃ bl : List Int, bl = natL (belowN f.terms a f.blocks.length) := ⟨_, rfl⟩
  obtain ⟨bo, hbo⟩ : ∃ bo, bo = bothF f.terms a b := ⟨_, rfl⟩
  obtain ⟨E, hE⟩ : ∃ E, E = backE f.terms := ⟨_, rfl⟩
  have l1 : ol.length < 2 ^ 30 := by
    rw [hol]
    have := domO_len f.terms
    have e : f.terms.length = f.blocks.length := by simp [RFun.terms]
    omega
  have l2 : bl.length < 2 ^ 30 := by
    rw [hbl2, natL_len]
    have := belowN_le f.terms a f.blocks.length
    omega
  have l3 : E.length ≤ 400 := by
    rw [hE]
    unfold backE
    exact Nat.le_trans (List.length_filter_le _ _) (someE_len_le _ _)
  have k1 : ∀ w', FunAt w' w'.heap.size g → Fit g → Ct Tryz.prog 34 #[g.val] w' (PartO ol) := fun w' a1 a2 => dom_Of_ct3 (by rw [hts]; exact hol) a1 a2
  have k2 : ∀ w', FunAt w' w'.heap.size g → Fit g → Ct Tryz.prog 36 #[g.val, .int .i64 a, .int .i64 b] w' (Is (.bool ov)) := fun w' a1 a2 => by rw [hov, ← hts]; exact dom_Over_ct a1 a2 hbb
  have k3 : ∀ w', Tabs w' w'.heap.size → FunAt w' w'.heap.size g → Fit g → Ct Tryz.prog 38 #[g.val, .int .i64 a] w' (NewL 3 1 bl.length (ints bl)) := fun w' a0 a1 a2 => by rw [hbl2, natL_len, natL_ints, ← hts, ← hgl]; exact dom_Below_ct a0 a1 a2 (by omega)
  have k4 : ∀ w', FunAt w' w'.heap.size g → Fit g → Ct Tryz.prog 40 #[g.val, .int .i64 a, .int .i64 b] w' (Is (.int .i64 bo)) := fun w' a1 a2 => by rw [hbo, ← hts]; exact dom_Both_ct a1 a2 ha hbb
  have k5 : ∀ w', FunAt w' w'.heap.size g → Fit g → Ct Tryz.prog 43 #[g.val] w' (NewL 58 3 E.length (edV E)) := fun w' a1 a2 => by rw [hE, ← hts]; exact dom_Back_ct a1 a2
  have r1 : ∀ w', FunAt w' w'.heap.size f → Ct Tryz.prog 35 #[f.val] w' (NewL 3 1 ol.length (ints ol)) := fun w' a1 => by rw [hol]; exact ref11_Of_ct a1 hfit (by omega)
  have r2 : ∀ w', FunAt w' w'.heap.size f → Ct Tryz.prog 37 #[f.val, .int .i64 a, .int .i64 b] w' (Is (.bool ov)) := fun w' a1 => by rw [hov]; exact ref11_Over_ct a1 hfit
  have r3 : ∀ w', FunAt w' w'.heap.size f → Ct Tryz.prog 39 #[f.val, .int .i64 a] w' (NewL 3 1 bl.length (ints bl)) := fun w' a1 => by rw [hbl2, natL_len, natL_ints]; exact ref11_Below_ct a1 hfit (by omega)
  have r4 : ∀ w', FunAt w' w'.heap.size f → Ct Tryz.prog 41 #[f.val, .int .i64 a, .int .i64 b] w' (Is (.int .i64 bo)) := fun w' a1 => by rw [hbo]; exact ref11_Both_ct a1 hfit (by omega)
  have r5 : ∀ w', FunAt w' w'.heap.size f → Ct Tryz.prog 44 #[f.val] w' (NewL 58 3 E.length (edV E)) := fun w' a1 => by rw [hE]; exact ref11_Back_ct a1 hfit (by omega)
  have q15 : decide (ov = ov) = true := by simp
  have q35 : decide (bo = bo) = true := by simp
  have hg1 : ∀ {M : List Res} {w' : World}, Hp w w.heap.size (M ++ LB) w' → FunAt w' w'.heap.size g ∧ Fit g := fun hh => ⟨(hQ (fun r h => h) hh).fun_, (hQ (fun r h => h) hh).fit hfc⟩
  clear hol hov hbl2 hbo hE
  refine Cd.seq ?_
  refine Cd.draw mixed 4 (fun opNo => match opNo with | 1 => some (PartO ol) | 3 => some (PartO ol) | _ => none) (fun _ => []) (by kernel_rfl) (by intro q V h; split at h <;> cases h; exact partO_in ol; exact partO_in ol) (fun u hu => ?_)
  refine Wk.p (ldw (cs := g.cells.toArray) ag_api_Func (i := 0) h7 rfl) ?_
  refine Wk.x (V := PartO ol) hu (sp_call (vs := [g.val]) en_dom_Of (fun M w' hh => k1 w' (hg1 hh).1 (hg1 hh).2)) ?_
  rintro _ _ hu1 ⟨A18, c18, R18, rfl, rfl, ho1, hp1⟩
  refine Wk.p (ldw (cs := g.cells.toArray) ag_api_Func (i := 0) h7 rfl) ?_
  refine Wk.x (V := PartO ol) hu (sp_call (vs := [g.val]) en_dom_Of (fun M w' hh => k1 w' (hg1 hh).1 (hg1 hh).2)) ?_
  rintro _ _ hu3 ⟨A20, c20, R20, rfl, rfl, ho2, hp2⟩
  refine Wk.nil ?_
  rw [needs_cons hu3, needs_cons hu1, needs_none]
  refine Ol.p ass ?_
  refine Ol.p ass ?_
  refine Ol.nil ?_
  show Cd _ _ _ _ (R20 :: R18 :: LB)
  have hin2 : ∀ r ∈ LB, r ∈ R20 :: R18 :: LB := fun r h => List.mem_cons_of_mem _ (List.mem_cons_of_mem _ h)
  have hg : ∀ {M : List Res} {w' : World}, Hp w w.heap.size (M ++ (R20 :: R18 :: LB)) w' → FunAt w' w'.heap.size g ∧ Fit g := fun hh => ⟨(hQ hin2 hh).fun_, (hQ hin2 hh).fit hfc⟩
  have h18 : ∀ {M : List Res} {w' : World} {r : Res}, Hp w w.heap.size (M ++ (r :: R20 :: R18 :: LB)) w' → Reads w' w'.heap.size 1 A18 ol.length (ints ol) := fun hh => (hp1 w w.heap.size).keep (.sub (.cons _ (.cons _ (.cons_cons _ (List.nil_sublist _))))) _ _ hh
  refine Cd.mid (fun σ' L' => Has σ' [(3, .pointer (some ⟨g3, 0, none⟩)), (7, .pointer (some ⟨g7, 0, none⟩)), (8, .slice A18 ol.length c18), (9, .slice A20 ol.length c20), (10, .bool true)] ∧ Keep L' (R20 :: R18 :: LB)) ?_ ?_
  · skip
    refine Cd.draw mixed 43 (fun opNo => match opNo with | 2 => some (NewL 3 1 ol.length (ints ol)) | 3 => some (Is (.bool true)) | 8 => some (Is (.bool ov)) | 12 => some (Is (.bool ov)) | 18 => some (NewL 3 1 bl.length (ints bl)) | 21 => some (NewL 3 1 bl.length (ints bl)) | 22 => some (Is (.bool true)) | 28 => some (Is (.int .i64 bo)) | 32 => some (Is (.int .i64 bo)) | 37 => some (NewL 58 3 E.length (edV E)) | 39 => some (NewL 58 3 E.length (edV E)) | 40 => some (Is (.bool true)) | _ => none) (fun opNo => match opNo with | 3 => [2] | 22 => [18, 21] | 40 => [37, 39] | _ => []) (by kernel_rfl) (by intro q V h; split at h <;> cases h; exact ⟨_, _, none, 0, rfl, rfl⟩; exact ⟨_, [], rfl, rfl⟩; exact ⟨_, [], rfl, rfl⟩; exact ⟨_, [], rfl, rfl⟩; exact ⟨_, _, none, 0, rfl, rfl⟩; exact ⟨_, _, none, 0, rfl, rfl⟩; exact ⟨_, [], rfl, rfl⟩; exact ⟨_, [], rfl, rfl⟩; exact ⟨_, [], rfl, rfl⟩; exact ⟨_, _, none, 0, rfl, rfl⟩; exact ⟨_, _, none, 0, rfl, rfl⟩; exact ⟨_, [], rfl, rfl⟩) (fun u hu => ?_)
    refine Wk.p mvs ?_
    refine Wk.p (ldw (cs := f.cells.toArray) ag_api_Func (i := 3) h3 rfl) ?_
    refine Wk.x (V := NewL 3 1 ol.length (ints ol)) hu (sp_call (vs := [f.val]) en_ref11_Of (fun M w' hh => r1 w' (hf.now hh))) ?_
    rintro _ _ hu2 ⟨A23, c23, rfl, rfl⟩
    refine Wk.xn (V := Is (.bool true)) hu (l := [2]) rfl (by simp) (by rw [needs_cons hu2, needs_none]; exact (sp_call en_kit_SameInts (fun M w' hh => kit_SameInts_self (h18 hh) (Reads.row hh (i := 0) rfl) (by omega)))) ?_
    rintro _ _ hu3 ⟨rfl, rfl⟩
    refine Wk.p mvb ?_
    refine Wk.gp rfl (ldw (cs := g.cells.toArray) ag_api_Func (i := 2) h7 rfl) ?_
    refine Wk.gp rfl mvi ?_
    refine Wk.gp rfl mvi ?_
    refine Wk.gx (V := Is (.bool ov)) hu rfl (sp_call (vs := [g.val, .int .i64 a, .int .i64 b]) en_dom_Over (fun M w' hh => k2 w' (hg hh).1 (hg hh).2)) ?_
    rintro _ _ hu8 ⟨rfl, rfl⟩
    refine Wk.gp rfl (ldw (cs := f.cells.toArray) ag_api_Func (i := 3) h3 rfl) ?_
    refine Wk.gp rfl mvi ?_
    refine Wk.gp rfl mvi ?_
    refine Wk.gx (V := Is (.bool ov)) hu rfl (sp_call (vs := [f.val, .int .i64 a, .int .i64 b]) en_ref11_Over (fun M w' hh => r2 w' (hf.now hh))) ?_
    rintro _ _ hu12 ⟨rfl, rfl⟩
    refine Wk.gp rfl (eqb bo_bool) ?_
    refine Wk.p (pkTb rfl) ?_
    refine Wk.p mvb ?_
    refine Wk.gp q15 (ldw (cs := g.cells.toArray) ag_api_Func (i := 2) h7 rfl) ?_
    refine Wk.gp q15 mvi ?_
    refine Wk.gx (V := NewL 3 1 bl.length (ints bl)) hu q15 (sp_call (vs := [g.val, .int .i64 a]) en_dom_Below (fun M w' hh => k3 w' (hT.now hh) (hg hh).1 (hg hh).2)) ?_
    rintro _ _ hu18 ⟨A39, c39, rfl, rfl⟩
    refine Wk.gp q15 (ldw (cs := f.cells.toArray) ag_api_Func (i := 3) h3 rfl) ?_
    refine Wk.gp q15 mvi ?_
    refine Wk.gx (V := NewL 3 1 bl.length (ints bl)) hu q15 (sp_call (vs := [f.val, .int .i64 a]) en_ref11_Below (fun M w' hh => r3 w' (hf.now hh))) ?_
    rintro _ _ hu21 ⟨A42, c42, rfl, rfl⟩
    refine Wk.gxn (V := Is (.bool true)) hu q15 (l := [18, 21]) rfl (by simp) (by rw [needs_cons hu18, needs_cons hu21, needs_none]; exact (sp_call en_kit_SameInts (fun M w' hh => kit_SameInts_self (Reads.row hh (i := 0) rfl) (Reads.row hh (i := 1) rfl) (by omega)))) ?_
    rintro _ _ hu22 ⟨rfl, rfl⟩
    refine Wk.p (pkTb q15) ?_
    refine Wk.p mvb ?_
    refine Wk.gp rfl (ldw (cs := g.cells.toArray) ag_api_Func (i := 2) h7 rfl) ?_
    refine Wk.gp rfl mvi ?_
    refine Wk.gp rfl mvi ?_
    refine Wk.gx (V := Is (.int .i64 bo)) hu rfl (sp_call (vs := [g.val, .int .i64 a, .int .i64 b]) en_dom_Both (fun M w' hh => k4 w' (hg hh).1 (hg hh).2)) ?_
    rintro _ _ hu28 ⟨rfl, rfl⟩
    refine Wk.gp rfl (ldw (cs := f.cells.toArray) ag_api_Func (i := 3) h3 rfl) ?_
    refine Wk.gp rfl mvi ?_
    refine Wk.gp rfl mvi ?_
    refine Wk.gx (V := Is (.int .i64 bo)) hu rfl (sp_call (vs := [f.val, .int .i64 a, .int .i64 b]) en_ref11_Both (fun M w' hh => r4 w' (hf.now hh))) ?_
    rintro _ _ hu32 ⟨rfl, rfl⟩
    refine Wk.gp rfl eqi ?_
    refine Wk.p (pkTb rfl) ?_
    refine Wk.p mvb ?_
    refine Wk.gp q35 (ldw (cs := g.cells.toArray) ag_api_Func (i := 2) h7 rfl) ?_
    refine Wk.gx (V := NewL 58 3 E.length (edV E)) hu q35 (sp_call (vs := [g.val]) en_dom_Back (fun M w' hh => k5 w' (hg hh).1 (hg hh).2)) ?_
    rintro _ _ hu37 ⟨A58, c58, rfl, rfl⟩
    refine Wk.gp q35 (ldw (cs := f.cells.toArray) ag_api_Func (i := 3) h3 rfl) ?_
    refine Wk.gx (V := NewL 58 3 E.length (edV E)) hu q35 (sp_call (vs := [f.val]) en_ref11_Back (fun M w' hh => r5 w' (hf.now hh))) ?_
    rintro _ _ hu39 ⟨A60, c60, rfl, rfl⟩
    refine Wk.gxn (V := Is (.bool true)) hu q35 (l := [37, 39]) rfl (by simp) (by rw [needs_cons hu37, needs_cons hu39, needs_none]; exact (sp_call en_law11_same (fun M w' hh => law11_same_self (Reads.row hh (i := 0) rfl) (Reads.row hh (i := 1) rfl) l3))) ?_
    rintro _ _ hu40 ⟨rfl, rfl⟩
    refine Wk.p (pkTb q35) ?_
    refine Wk.p asb ?_
    refine Wk.nil ?_
    rw [needs_cons hu40, needs_cons hu39, needs_cons hu37, needs_cons hu32, needs_cons hu28, needs_cons hu22, needs_cons hu21, needs_cons hu18, needs_cons hu12, needs_cons hu8, needs_cons hu3, needs_cons hu2, needs_none]
    refine Ol.nil ?_
    exact ⟨⟨rfl, rfl, rfl, rfl, rfl, trivial⟩, .sub (.cons _ (.cons _ (.cons _ (.cons _ (.cons _ (List.Sublist.refl _))))))⟩
  rintro σ' L' ⟨hs', hkp⟩
  refine Cd.keep hkp ?_
  refine Cd.has hs' ?_
  clear hs' hkp k1 k2 k3 k4 k5 r1 r2 r3 r4 r5
  refine Cd.seq ?_
  refine Cd.region ?_
  refine Ol.p mvb ?_
  refine Ol.p mvb ?_
  refine Ol.gp rfl mvs ?_
  refine Ol.gp rfl mvs ?_
  refine Ol.gx rfl (bsv [.slice A18 ol.length c18, .slice A20 ol.length c20] sl_L_L_int zr_L_int (by simp [Value.cells])) ?_
  rintro _ _ ⟨g67, rfl, rfl⟩
  refine Ol.gx rfl (sp_callm (vs := [.slice (some ⟨g67, 0, none⟩) 2 2]) (Lin := [row (.slice (some ⟨g67, 0, none⟩) 2 2) 22 1 2 [.slice A18 ol.length c18, .slice A20 ol.length c20], R18, R20]) (L2 := LB) en_kit_ApartInts (perm_count fun _ x => by simp only [List.count_append, List.count_cons, List.count_nil, List.cons_append, List.nil_append]; omega) (kit_Apart2 (x := ⟨A18, ol.length, ol.length, c18⟩) (y := ⟨A20, ol.length, ol.length, c20⟩) (fun k => ho1 k _) (fun k => ho2 k _) ⟨by show ol.length < 2 ^ 39; omega, by show ol.length < 2 ^ 39; omega⟩)) ?_
  rintro _ _ ⟨_, rfl, rfl, rfl⟩
  refine Ol.p (pkTb rfl) ?_
  refine Ol.p mvb ?_
  refine Ol.gp rfl (ldw (cs := g.cells.toArray) ag_api_Func (i := 0) h7 rfl) ?_
  refine Ol.gp rfl (ldw (cs := f.cells.toArray) ag_api_Func (i := 1) h3 rfl) ?_
  refine Ol.gs rfl (cl (v := .bool true) (vs := [g.val, f.val]) en_kit_KeptFunc (fun M w' hh => kit_KeptFunc_ct hb (hQ (fun r h => h) hh) (hf.now hh) hfc hfit.c (by omega) (hbi.now hh) h40)) ?_
  refine Ol.p (pkTb rfl) ?_
  refine Ol.p mvb ?_
  refine Ol.gs rfl (cl (v := .bool true) en_law11_awake (fun M w' hh => law11_awake_ct)) ?_
  refine Ol.p (pkTb rfl) ?_
  refine Ol.p asb ?_
  refine Ol.nil ?_
  exact Cd.ret ⟨.bool true, ret1 rfl rfl, [], Keep.nil, rfl, rfl⟩
end
end Go.Proofs.YtkefmjhagmacfaaGreatDoor

/- Lists of structs that came in, opened. -/
namespace Go.Proofs.YtkefmjhagmacfaaGreatDoor
set_option linter.unusedVariables false
open Go Go.ChangeShapes Go.WideShapes Go.ChangeAt Go.RowKit
set_option maxRecDepth 100000

section
variable {H : Type} {enc : TypeId × Value → H} {P : Program} {w : World}
/-- What came in is not endless. -/
def Lean_ (P : Program) (t : TypeId) (d : DataW H) : Prop := ∀ n ∈ d.weights P t, n ≤ reachBytes
theorem weightsAll_mem {P : Program} {e : TypeId} {d : DataW H} {n : Nat} (hn : n ∈ d.weights P e) : ∀ {l : List (DataW H)}, d ∈ l → n ∈ DataW.weightsAll P e l
  | x :: l, h => by
    simp only [DataW.weightsAll, List.mem_append]
    rcases List.mem_cons.1 h with rfl | h
    · exact .inl hn
    · exact .inr (weightsAll_mem hn h)
theorem lean_slice {t e : TypeId} {a b : List (DataW H)} (ht : P.underlying t = some (.slice e)) (h : Lean_ P t (.slice a b)) : (a.length + b.length) * P.bytesOf e ≤ reachBytes ∧ ∀ d ∈ a, Lean_ P e d := by
  unfold Lean_ at h
  simp only [DataW.weights, ht, List.mem_cons, List.mem_append] at h
  exact ⟨h _ (.inl rfl), fun d hd n hn => h n (.inr (.inl (weightsAll_mem hn hd)))⟩
theorem open_list {α : Type} {cf : α → List Value} {Good : α → Prop} {t e : TypeId} {c fuel : Nat} {cs : List Value} {x : DataW H × List MemPlace} (ht : P.underlying t = some (.slice e)) (hc : P.cellsOf e = c) (hc0 : 0 < c) (hby : 0 < P.bytesOf e)
    (hcf : ∀ a, (cf a).length = c)
    (hel : ∀ n cs y, DataW.trod enc P w 0 (fun _ => true) true n e cs = some y → Lean_ P e y.1 → ∃ a : α, cs = cf a ∧ Good a)
    (h : DataW.trod enc P w 0 (fun _ => true) true fuel t cs = some x) (hw : Lean_ P t x.1) :
    ∃ (A : Option Addr) (cp : Nat) (l : List α), cs = [.slice A l.length cp] ∧ l.length ≤ cp ∧ Reads w w.heap.size c A l.length (l.flatMap cf) ∧ (∀ a ∈ l, Good a) ∧ l.length < 2 ^ 50 := by
  rcases Go.Deep.open_slice ht h with ⟨rfl, rfl⟩ | ⟨a, len, cap, m, n, D, Pl, rfl, _, hl, _, hm, rfl, hx⟩
  · exact ⟨none, 0, [], rfl, Nat.le_refl _, ⟨by simp, fun h => absurd h (by simp)⟩, by simp, by simp⟩
  · have hm : m = cap := by simpa using hm
    subst hm
    obtain ⟨hsz, hws⟩ := lean_slice ht hw
    have hsz : len < 2 ^ 50 := by
      simp only [List.length_map, List.length_range] at hsz
      have : reachBytes < 2 ^ 47 := reachBytes_lt
      have h2 : len + (m - len) ≤ (len + (m - len)) * P.bytesOf e := Nat.le_mul_of_pos_right _ hby
      omega
    have hex : ∀ i, i < len → ∃ v : α, Good v ∧ w.cells? 0 (a.add (i * c)) c = some (cf v) := fun i hi => by
      obtain ⟨cs', h1, h2⟩ := hx i (by omega)
      obtain ⟨v, rfl, hg⟩ := hel n cs' _ h2 (hws _ (List.mem_map.2 ⟨i, by simpa using hi, rfl⟩))
      rw [hc] at h1
      exact ⟨v, hg, h1⟩
    have hL : ∃ l : List α, l.length = len ∧ ∀ i v, l[i]? = some v → Good v ∧ w.cells? 0 (a.add (i * c)) c = some (cf v) := by
      clear hws hx hw h hm
      have : ∀ k, k ≤ len → ∃ l : List α, l.length = k ∧ ∀ i v, l[i]? = some v → Good v ∧ w.cells? 0 (a.add (i * c)) c = some (cf v) := by
        intro k
        induction k with
        | zero => exact fun _ => ⟨[], rfl, fun i v h => by simp at h⟩
        | succ k ih =>
          intro hk
          obtain ⟨l, h1, h2⟩ := ih (by omega)
          obtain ⟨v, hv⟩ := hex k (by omega)
          refine ⟨l ++ [v], by simp [h1], fun i u hu => ?_⟩
          rw [List.getElem?_append] at hu
          split at hu
          · exact h2 i u hu
          · rename_i hlt
            have hi : i - l.length = 0 := by
              have := (List.getElem?_eq_some_iff.1 hu).1
              simp at this; omega
            rw [hi] at hu
            simp at hu
            subst hu
            have : i = k := by omega
            rw [this]; exact hv
      exact this len (Nat.le_refl _)
    obtain ⟨l, hll, hg⟩ := hL
    have hcell : ∀ i v j, l[i]? = some v → j < c → w.cell? (a.add (i * c + j)) = (cf v)[j]? := fun i v j hv hj => by
      have := (World.cells?_some (hg i v hv).2).2.2 j hj
      rw [Go.Deep.add_add] at this
      exact this
    refine ⟨some a, m, l, by rw [hll], by omega, ⟨by rw [flat_len hcf], fun hn => ⟨a, rfl, ?_, fun j u hu => ?_⟩⟩, fun v hv => ?_, by omega⟩
    · obtain ⟨v, hv⟩ : ∃ v, l[0]? = some v := ⟨_, List.getElem?_eq_getElem hn⟩
      have h0 := hcell 0 v 0 hv hc0
      have : (cf v)[0]? = some ((cf v)[0]'(by rw [hcf]; exact hc0)) := List.getElem?_eq_getElem _
      rw [this] at h0
      have := World.block_lt_of_cell? w _ h0
      simpa [Addr.add] using this
    · have hjl : j < l.length * c := by
        have := (List.getElem?_eq_some_iff.1 hu).1
        rwa [flat_len hcf] at this
      have hd : j / c < l.length := Nat.div_lt_of_lt_mul (by rw [Nat.mul_comm]; exact hjl)
      have hr : j % c < c := Nat.mod_lt _ hc0
      have hj : j = j / c * c + j % c := by rw [Nat.mul_comm]; exact (Nat.div_add_mod j c).symm
      have hv : l[j / c]? = some l[j / c] := List.getElem?_eq_getElem hd
      rw [hj, flat_get hcf _ _ _ _ hv hr] at hu
      rw [hj, hcell _ _ _ hv hr]
      exact hu
    · obtain ⟨i, hi⟩ := List.mem_iff_getElem?.1 hv
      exact (hg i v hi).1
end
end Go.Proofs.YtkefmjhagmacfaaGreatDoor

/- A function of the program's that came in, opened. -/
namespace Go.Proofs.YtkefmjhagmacfaaGreatDoor
set_option linter.unusedVariables false
open Go Go.ChangeShapes Go.WideShapes Go.ChangeAt Go.RowKit
set_option maxRecDepth 100000

theorem lean_struct {H : Type} {P : Program} {t u : TypeId} {fs : Array Field} {parts : List (DataW H)} {d : DataW H} {j : Nat} (ht : P.underlying t = some (.struct fs)) (h : Lean_ P t (.agg parts)) (hu : (fs.toList.map (·.type))[j]? = some u) (hd : parts[j]? = some d) : Lean_ P u d := by
  unfold Lean_ at h ⊢
  simp only [DataW.weights, ht] at h
  exact fun n hn => h n (DataW.weights_mem_each hu hd n hn)
theorem list8 {α : Type} {l : List α} (h : l.length = 8) : ∃ a b c d e f g i, l = [a, b, c, d, e, f, g, i] := by
  match l, h with
  | [a, b, c, d, e, f, g, i], _ => exact ⟨a, b, c, d, e, f, g, i, rfl⟩
theorem i64_wf {n : Int} (h : (Lit.int .i64 n).wf = true) : -9223372036854775808 ≤ n ∧ n ≤ 9223372036854775807 := by
  have := i64_of_wf h
  unfold I64 at this; omega
theorem lean_each {H : Type} {P : Program} {ts : List TypeId} {ds : List (DataW H)} (h : (DataW.weightsEach P ts ds).all (· ≤ reachBytes) = true) {j : Nat} {t : TypeId} {d : DataW H} (ht : ts[j]? = some t) (hd : ds[j]? = some d) : Lean_ P t d := fun n hn => by
  simpa using List.all_eq_true.1 h n (DataW.weights_mem_each ht hd n hn)
section
theorem cells_Ins : Tryz.prog.cellsOf 110 = 8 := by kernel_rfl
theorem cells_Op : Tryz.prog.cellsOf 108 = 1 := by kernel_rfl
theorem cells_Lint : Tryz.prog.cellsOf 22 = 1 := by kernel_rfl
def IR (n : Int) : Prop := -9223372036854775808 ≤ n ∧ n ≤ 9223372036854775807
def GoodI (W : World) (i : RIns) : Prop := (∀ n ∈ [i.op, i.dst, i.a, i.b, i.imm, i.callee, i.many], IR n) ∧ i.args.length < 2 ^ 50 ∧ i.args.length ≤ i.aC ∧ (∀ n ∈ i.args, IR n) ∧ Reads W W.heap.size 1 i.aA i.args.length (ints i.args)
theorem flat_ints : ∀ l : List Int, l.flatMap (fun n : Int => [Value.int .i64 n]) = ints l
  | [] => rfl
  | a :: l => by rw [List.flatMap_cons, flat_ints l]; rfl
section
variable {H : Type} {enc : TypeId × Value → H} {W : World}
theorem open_intl {n : Nat} {cs : List Value} {y : DataW H × List MemPlace} (h : DataW.trod enc Tryz.prog W 0 (fun _ => true) true n 22 cs = some y) (hw : Lean_ Tryz.prog 22 y.1) :
    ∃ (A : Option Addr) (cp : Nat) (l : List Int), cs = [.slice A l.length cp] ∧ l.length ≤ cp ∧ Reads W W.heap.size 1 A l.length (ints l) ∧ (∀ a ∈ l, IR a) ∧ l.length < 2 ^ 50 := by
  obtain ⟨A, cp, l, h1, h2, h3, h4, h5⟩ := open_list (cf := fun n : Int => [.int .i64 n]) (Good := IR) Tryz.underlying22 cells_int (by decide) (by rw [bytes_int]; decide) (fun _ => rfl) (fun n cs y h _ => by
    obtain ⟨z, rfl, rfl, hw⟩ := DataW.trod_int Tryz.underlying3 h
    exact ⟨z, rfl, i64_wf hw⟩) h hw
  refine ⟨A, cp, l, h1, h2, ?_, h4, h5⟩
  rw [flat_ints] at h3
  exact h3
theorem open_ins {n : Nat} {cs : List Value} {y : DataW H × List MemPlace} (h : DataW.trod enc Tryz.prog W 0 (fun _ => true) true n 110 cs = some y) (hw : Lean_ Tryz.prog 110 y.1) : ∃ i : RIns, cs = i.cells ∧ GoodI W i := by
  obtain ⟨xs, m, _, rfl, hl, hlen, hf⟩ := DataW.trod_struct Tryz.underlying110 h
  simp only [List.size_toArray, List.length_cons, List.length_nil] at hlen
  obtain ⟨y0, y1, y2, y3, y4, y5, y6, y7, rfl⟩ := list8 hlen
  have hl8 : cs.length = 8 := hl.trans cells_Ins
  obtain ⟨c0, c1, c2, c3, c4, c5, c6, c7, rfl⟩ := list8 hl8
  have f0 : DataW.trod enc Tryz.prog W 0 (fun _ => true) true m 108 [c0] = some y0 := by
    have q := hf 0 _ rfl
    change DataW.trod enc Tryz.prog W 0 (fun _ => true) true m 108 (List.take (Tryz.prog.cellsOf 108) (List.drop 0 [c0, c1, c2, c3, c4, c5, c6, c7])) = some y0 at q
    rw [cells_Op] at q
    exact q
  have f1 : DataW.trod enc Tryz.prog W 0 (fun _ => true) true m 3 [c1] = some y1 := by
    have q := hf 1 _ rfl
    change DataW.trod enc Tryz.prog W 0 (fun _ => true) true m 3 (List.take (Tryz.prog.cellsOf 3) (List.drop 1 [c0, c1, c2, c3, c4, c5, c6, c7])) = some y1 at q
    rw [cells_int] at q
    exact q
  have f2 : DataW.trod enc Tryz.prog W 0 (fun _ => true) true m 3 [c2] = some y2 := by
    have q := hf 2 _ rfl
    change DataW.trod enc Tryz.prog W 0 (fun _ => true) true m 3 (List.take (Tryz.prog.cellsOf 3) (List.drop 2 [c0, c1, c2, c3, c4, c5, c6, c7])) = some y2 at q
    rw [cells_int] at q
    exact q
  have f3 : DataW.trod enc Tryz.prog W 0 (fun _ => true) true m 3 [c3] = some y3 := by
    have q := hf 3 _ rfl
    change DataW.trod enc Tryz.prog W 0 (fun _ => true) true m 3 (List.take (Tryz.prog.cellsOf 3) (List.drop 3 [c0, c1, c2, c3, c4, c5, c6, c7])) = some y3 at q
    rw [cells_int] at q
    exact q
  have f4 : DataW.trod enc Tryz.prog W 0 (fun _ => true) true m 3 [c4] = some y4 := by
    have q := hf 4 _ rfl
    change DataW.trod enc Tryz.prog W 0 (fun _ => true) true m 3 (List.take (Tryz.prog.cellsOf 3) (List.drop 4 [c0, c1, c2, c3, c4, c5, c6, c7])) = some y4 at q
    rw [cells_int] at q
    exact q
  have f5 : DataW.trod enc Tryz.prog W 0 (fun _ => true) true m 3 [c5] = some y5 := by
    have q := hf 5 _ rfl
    change DataW.trod enc Tryz.prog W 0 (fun _ => true) true m 3 (List.take (Tryz.prog.cellsOf 3) (List.drop 5 [c0, c1, c2, c3, c4, c5, c6, c7])) = some y5 at q
    rw [cells_int] at q
    exact q
  have f6 : DataW.trod enc Tryz.prog W 0 (fun _ => true) true m 22 [c6] = some y6 := by
    have q := hf 6 _ rfl
    change DataW.trod enc Tryz.prog W 0 (fun _ => true) true m 22 (List.take (Tryz.prog.cellsOf 22) (List.drop 6 [c0, c1, c2, c3, c4, c5, c6, c7])) = some y6 at q
    rw [cells_Lint] at q
    exact q
  have f7 : DataW.trod enc Tryz.prog W 0 (fun _ => true) true m 3 [c7] = some y7 := by
    have q := hf 7 _ rfl
    change DataW.trod enc Tryz.prog W 0 (fun _ => true) true m 3 (List.take (Tryz.prog.cellsOf 3) (List.drop 7 [c0, c1, c2, c3, c4, c5, c6, c7])) = some y7 at q
    rw [cells_int] at q
    exact q
  obtain ⟨z0, e0, _, w0⟩ := DataW.trod_int Tryz.underlying108 f0
  obtain ⟨z1, e1, _, w1⟩ := DataW.trod_int Tryz.underlying3 f1
  obtain ⟨z2, e2, _, w2⟩ := DataW.trod_int Tryz.underlying3 f2
  obtain ⟨z3, e3, _, w3⟩ := DataW.trod_int Tryz.underlying3 f3
  obtain ⟨z4, e4, _, w4⟩ := DataW.trod_int Tryz.underlying3 f4
  obtain ⟨z5, e5, _, w5⟩ := DataW.trod_int Tryz.underlying3 f5
  obtain ⟨z7, e7, _, w7⟩ := DataW.trod_int Tryz.underlying3 f7
  obtain ⟨A, cp, l, e6, h2, h3, h4, h5⟩ := open_intl f6 (lean_struct Tryz.underlying110 (parts := [y0.1, y1.1, y2.1, y3.1, y4.1, y5.1, y6.1, y7.1]) hw (j := 6) rfl rfl)
  simp only [List.cons.injEq, and_true] at e0 e1 e2 e3 e4 e5 e6 e7
  subst e0 e1 e2 e3 e4 e5 e6 e7
  refine ⟨⟨z0, z1, z2, z3, z4, z5, A, cp, l, z7⟩, rfl, ?_, h5, h2, h4, h3⟩
  intro n hn
  simp only [List.mem_cons, List.not_mem_nil, or_false] at hn
  rcases hn with rfl | rfl | rfl | rfl | rfl | rfl | rfl
  all_goals exact i64_wf (by assumption)
theorem list4 {α : Type} {l : List α} (h : l.length = 4) : ∃ a b c d, l = [a, b, c, d] := by
  match l, h with
  | [a, b, c, d], _ => exact ⟨a, b, c, d, rfl⟩
theorem list5 {α : Type} {l : List α} (h : l.length = 5) : ∃ a b c d e, l = [a, b, c, d, e] := by
  match l, h with
  | [a, b, c, d, e], _ => exact ⟨a, b, c, d, e, rfl⟩
theorem list3 {α : Type} {l : List α} (h : l.length = 3) : ∃ a b c, l = [a, b, c] := by
  match l, h with
  | [a, b, c], _ => exact ⟨a, b, c, rfl⟩
theorem list2 {α : Type} {l : List α} (h : l.length = 2) : ∃ a b, l = [a, b] := by
  match l, h with
  | [a, b], _ => exact ⟨a, b, rfl⟩
theorem cells_Term : Tryz.prog.cellsOf 47 = 4 := by kernel_rfl
theorem cells_Kind : Tryz.prog.cellsOf 44 = 1 := by kernel_rfl
theorem cells_A2 : Tryz.prog.cellsOf 45 = 2 := by kernel_rfl
theorem cells_Block : Tryz.prog.cellsOf 49 = 5 := by kernel_rfl
theorem cells_Func : Tryz.prog.cellsOf 25 = 2 := by kernel_rfl
theorem cells_LIns : Tryz.prog.cellsOf 43 = 1 := by kernel_rfl
theorem cells_LBlk : Tryz.prog.cellsOf 23 = 1 := by kernel_rfl
theorem open_term {n : Nat} {cs : List Value} {y : DataW H × List MemPlace} (h : DataW.trod enc Tryz.prog W 0 (fun _ => true) true n 47 cs = some y) : ∃ t : Tm, cs = t.cells ∧ ∀ n ∈ [t.kind, t.a, t.t0, t.t1], IR n := by
  obtain ⟨xs, m, _, rfl, hl, hlen, hf⟩ := DataW.trod_struct Tryz.underlying47 h
  simp only [List.size_toArray, List.length_cons, List.length_nil] at hlen
  obtain ⟨y0, y1, y2, rfl⟩ := list3 hlen
  have hl4 : cs.length = 4 := hl.trans cells_Term
  obtain ⟨c0, c1, c2, c3, rfl⟩ := list4 hl4
  have f0 : DataW.trod enc Tryz.prog W 0 (fun _ => true) true m 44 [c0] = some y0 := by
    have q := hf 0 _ rfl
    change DataW.trod enc Tryz.prog W 0 (fun _ => true) true m 44 (List.take (Tryz.prog.cellsOf 44) (List.drop 0 [c0, c1, c2, c3])) = some y0 at q
    rw [cells_Kind] at q
    exact q
  have f1 : DataW.trod enc Tryz.prog W 0 (fun _ => true) true m 3 [c1] = some y1 := by
    have q := hf 1 _ rfl
    change DataW.trod enc Tryz.prog W 0 (fun _ => true) true m 3 (List.take (Tryz.prog.cellsOf 3) (List.drop 1 [c0, c1, c2, c3])) = some y1 at q
    rw [cells_int] at q
    exact q
  have f2 : DataW.trod enc Tryz.prog W 0 (fun _ => true) true m 45 [c2, c3] = some y2 := by
    have q := hf 2 _ rfl
    change DataW.trod enc Tryz.prog W 0 (fun _ => true) true m 45 (List.take (Tryz.prog.cellsOf 45) (List.drop 2 [c0, c1, c2, c3])) = some y2 at q
    rw [cells_A2] at q
    exact q
  obtain ⟨xs, m2, _, e2, hl2, hlen2, hf2⟩ := DataW.trod_array Tryz.underlying45 f2
  obtain ⟨y3, y4, rfl⟩ := list2 hlen2
  have g0 : DataW.trod enc Tryz.prog W 0 (fun _ => true) true m2 3 [c2] = some y3 := by
    have q := hf2 0 (by decide)
    rw [cells_int] at q
    exact q
  have g1 : DataW.trod enc Tryz.prog W 0 (fun _ => true) true m2 3 [c3] = some y4 := by
    have q := hf2 1 (by decide)
    rw [cells_int] at q
    exact q
  obtain ⟨z0, e0, _, w0⟩ := DataW.trod_int Tryz.underlying44 f0
  obtain ⟨z1, e1, _, w1⟩ := DataW.trod_int Tryz.underlying3 f1
  obtain ⟨z2, e2, _, w2⟩ := DataW.trod_int Tryz.underlying3 g0
  obtain ⟨z3, e3, _, w3⟩ := DataW.trod_int Tryz.underlying3 g1
  simp only [List.cons.injEq, and_true] at e0 e1 e2 e3
  subst e0 e1 e2 e3
  refine ⟨⟨z0, z1, z2, z3⟩, rfl, ?_⟩
  intro n hn
  simp only [List.mem_cons, List.not_mem_nil, or_false] at hn
  rcases hn with rfl | rfl | rfl | rfl
  all_goals exact i64_wf (by assumption)
def GoodB (W : World) (b : RBlk) : Prop := (∀ n ∈ [b.term.kind, b.term.a, b.term.t0, b.term.t1], IR n) ∧ b.ins.length < 2 ^ 50 ∧ b.ins.length ≤ b.iC ∧ (∀ i ∈ b.ins, GoodI W i) ∧ Reads W W.heap.size 8 b.iA b.ins.length (b.ins.flatMap RIns.cells)
theorem open_block {n : Nat} {cs : List Value} {y : DataW H × List MemPlace} (h : DataW.trod enc Tryz.prog W 0 (fun _ => true) true n 49 cs = some y) (hw : Lean_ Tryz.prog 49 y.1) : ∃ b : RBlk, cs = b.cells ∧ GoodB W b := by
  obtain ⟨xs, m, _, rfl, hl, hlen, hf⟩ := DataW.trod_struct Tryz.underlying49 h
  simp only [List.size_toArray, List.length_cons, List.length_nil] at hlen
  obtain ⟨y0, y1, rfl⟩ := list2 hlen
  have hl5 : cs.length = 5 := hl.trans cells_Block
  obtain ⟨c0, c1, c2, c3, c4, rfl⟩ := list5 hl5
  have f0 : DataW.trod enc Tryz.prog W 0 (fun _ => true) true m 43 [c0] = some y0 := by
    have q := hf 0 _ rfl
    change DataW.trod enc Tryz.prog W 0 (fun _ => true) true m 43 (List.take (Tryz.prog.cellsOf 43) (List.drop 0 [c0, c1, c2, c3, c4])) = some y0 at q
    rw [cells_LIns] at q
    exact q
  have f1 : DataW.trod enc Tryz.prog W 0 (fun _ => true) true m 47 [c1, c2, c3, c4] = some y1 := by
    have q := hf 1 _ rfl
    change DataW.trod enc Tryz.prog W 0 (fun _ => true) true m 47 (List.take (Tryz.prog.cellsOf 47) (List.drop 1 [c0, c1, c2, c3, c4])) = some y1 at q
    rw [cells_Term] at q
    exact q
  obtain ⟨t, e1, ht⟩ := open_term f1
  obtain ⟨A, cp, l, e0, h1, h2, h3, h4⟩ := open_list (cf := RIns.cells) (Good := GoodI W) Tryz.underlying43 cells_Ins (by decide) (of_decide_eq_true (by kernel_rfl)) RIns.len (fun n cs y h hw => open_ins h hw) f0 (lean_struct Tryz.underlying49 (parts := [y0.1, y1.1]) hw (j := 0) rfl rfl)
  simp only [List.cons.injEq, and_true] at e0
  subst e0
  rw [e1]
  exact ⟨⟨A, cp, l, t⟩, rfl, ht, h4, h1, h3, h2⟩
theorem reads_func {v : Value} {d : DataW H} {p : List MemPlace} (h : DataW.Trod enc Tryz.prog W 0 (fun _ => true) true 25 v d p) (hv : ∃ cs, v = .agg cs) (hw : Lean_ Tryz.prog 25 d) : ∃ f : RFun, v = f.val ∧ FunAt W W.heap.size f ∧ Fit f := by
  obtain ⟨fuel, h⟩ := h
  obtain ⟨cs, rfl⟩ := hv
  obtain ⟨xs, m, _, e, hl, hlen, hf⟩ := DataW.trod_struct Tryz.underlying25 h
  simp only [List.size_toArray, List.length_cons, List.length_nil] at hlen
  obtain ⟨y0, y1, rfl⟩ := list2 hlen
  have hl2 : cs.toList.length = 2 := by simpa [Value.cells] using hl.trans cells_Func
  obtain ⟨c0, c1, hcs⟩ := list2 hl2
  have ed : d = .agg [y0.1, y1.1] := congrArg Prod.fst e
  subst ed
  simp only [Value.cells, hcs] at hf
  have f0 : DataW.trod enc Tryz.prog W 0 (fun _ => true) true m 22 [c0] = some y0 := by
    have q := hf 0 _ rfl
    change DataW.trod enc Tryz.prog W 0 (fun _ => true) true m 22 (List.take (Tryz.prog.cellsOf 22) (List.drop 0 [c0, c1])) = some y0 at q
    rw [cells_Lint] at q
    exact q
  have f1 : DataW.trod enc Tryz.prog W 0 (fun _ => true) true m 23 [c1] = some y1 := by
    have q := hf 1 _ rfl
    change DataW.trod enc Tryz.prog W 0 (fun _ => true) true m 23 (List.take (Tryz.prog.cellsOf 23) (List.drop 1 [c0, c1])) = some y1 at q
    rw [cells_LBlk] at q
    exact q
  obtain ⟨A, cp, l, e0, h1, h2, h3, h4⟩ := open_intl f0 (lean_struct Tryz.underlying25 (parts := [y0.1, y1.1]) hw (j := 0) rfl rfl)
  obtain ⟨A2, cp2, l2, e1, k1, k2, k3, k4⟩ := open_list (cf := RBlk.cells) (Good := GoodB W) Tryz.underlying23 cells_Block (by decide) (of_decide_eq_true (by kernel_rfl)) RBlk.len (fun n cs y h hw => open_block h hw) f1 (lean_struct Tryz.underlying25 (parts := [y0.1, y1.1]) hw (j := 1) rfl rfl)
  simp only [List.cons.injEq, and_true] at e0 e1
  subst e0 e1
  refine ⟨⟨A, cp, l, A2, cp2, l2⟩, ?_, ⟨h2, k2, fun b hb => (k3 b hb).2.2.2.2, fun b hb i hi => ((k3 b hb).2.2.2.1 i hi).2.2.2.2⟩, ?_⟩
  · have : cs = [Value.slice A l.length cp, .slice A2 l2.length cp2].toArray := by rw [← hcs]
    rw [this]; rfl
  · exact ⟨h3, h4, k4, h1, k1, fun b hb => (k3 b hb).2.1, fun b hb => (k3 b hb).2.2.1, fun b hb => (k3 b hb).1, fun b hb i hi => ((k3 b hb).2.2.2.1 i hi).1, fun b hb i hi => ((k3 b hb).2.2.2.1 i hi).2.1, fun b hb i hi => ((k3 b hb).2.2.2.1 i hi).2.2.1, fun b hb i hi => ((k3 b hb).2.2.2.1 i hi).2.2.2.1⟩
end
end
end Go.Proofs.YtkefmjhagmacfaaGreatDoor

/- DomTells (the tied card): for every input that can be read, the law DomTells returns true and its arguments read as before. Conditions: the row, its listed table of math/bits tied to the text of the program. -/
namespace Go.Proofs.YtkefmjhagmacfaaGreatDoor
set_option linter.unusedVariables false
open Go Go.ChangeShapes Go.WideShapes Go.ChangeAt Go.RowKit
set_option maxRecDepth 100000

theorem domTells_lifted (os : Os) (started : os.Started) (H : Type) (enc : TypeId × Value → H) :
    ReturnsInHanded {} Tryz.checked os 5 .any (fun w args => (Rows.domTellsSpec.pre enc Tryz.prog Tryz.f5 [] false w args ∧ laidMetH Tryz.prog tabL w) ∧ sizedMet enc Tryz.prog Tryz.f5 (OpenSpec.ofChange Rows.domTellsSpec) false w args)
      (Rows.domTellsSpec.post enc Tryz.prog Tryz.f5 false true false false) := by
  refine returnsInHanded_of_change_and (C := Tryz.checked) (X := fun w _ => laidMetH Tryz.prog tabL w) (fun _ _ _ hh h => h.of_heap hh) own_ started (by kernel_rfl) Tryz.func5
    (ChangeSpec.witness_shaped (enc := enc) (C := Tryz.checked) (os := os) (X := fun w _ => laidMetH Tryz.prog tabL w) false (World.doorLaid Tryz.prog 14 os) #[.agg #[.slice none 0 0, .slice none 0 0], .int .i64 0, .int .i64 0] 8 rfl (World.shaped_of_RefB (by kernel_rfl) (by kernel_rfl)) (by kernel_rfl) (by kernel_rfl) (by kernel_rfl) (door_met os _)) ?_
  intro W base args ds gs before hval0 hW _ hsz0 hL _
  have hT := tabs_of_laid hL
  have hval : ∀ (j : Nat) t v, Tryz.f5.params[j]? = some t → args[j]? = some v → Value.okWide Tryz.prog W .any base t v := hval0
  have hW' := hW
  obtain ⟨p, q, hA0, hV, rfl, hfz, hnd⟩ := hW
  have hA : DataW.TrodAll enc Tryz.prog W 0 (fun _ => true) true Tryz.f5.params.toList args.toList ds p := hA0
  have hsz : (DataW.weightsEach Tryz.prog (Tryz.f5.params.toList ++ Rows.domTellsSpec.plain.varTypes Tryz.prog) (ds ++ gs)).all (· ≤ reachBytes) = true := hsz0
  rw [Tryz.params5] at hA hval hsz
  obtain ⟨v0, vs0, d0, ds0, p0, q0, hargs, rfl, rfl, h0, r0⟩ := trodAll_cons hA
  obtain ⟨v1, vs1, d1, ds1, p1, q1, rfl, rfl, rfl, h1, r1⟩ := trodAll_cons r0
  obtain ⟨v2, vs2, d2, ds2, p2, q2, rfl, rfl, rfl, h2, r2⟩ := trodAll_cons r1
  obtain ⟨rfl, rfl, rfl⟩ := trodAll_nil r2
  obtain rfl : args = #[v0, v1, v2] := by cases args; simp_all
  obtain ⟨rfl, rfl⟩ := trodVars_none hV
  have k0 := h0
  have lt0 : ∀ x ∈ p0, x.block < W.heap.size := by obtain ⟨m, hm⟩ := k0; exact DataW.trod_lt m _ _ _ hm
  obtain ⟨z0, rfl, x0, y0⟩ := reads_func h0 (Exists.imp (fun _ h => h.1) (okWide_struct Tryz.underlying25 (hval 0 25 v0 rfl rfl))) (lean_each hsz (j := 0) rfl rfl)
  obtain ⟨z1, rfl, rfl, rfl, wf1⟩ := open_int Tryz.underlying3 (hval 1 3 v1 rfl rfl) h1
  have i1 := i64_of_wf wf1
  obtain ⟨z2, rfl, rfl, rfl, wf2⟩ := open_int Tryz.underlying3 (hval 2 3 v2 rfl rfl) h2
  have i2 := i64_of_wf wf2
  clear hA0 hval0
  refine ((law11_DomTells_ct hT x0 y0 i1 i2).calls).mono fun e W' ⟨v, he, L, hh, hv, _⟩ => ?_
  subst hv
  subst he
  have bel := hh.below
  exact ⟨_, rfl, _, _, _, [], _, [], hW', trodAll_mk1 (shut_bool Tryz.underlying4 _), (trodAll_cons_mk (Below.trod laidOut_ (by kernel_rfl) (of_decide_eq_true (by kernel_rfl)) k0 bel lt0) (trodAll_cons_mk (shut_int Tryz.underlying3 wf1) (trodAll_cons_mk (shut_int Tryz.underlying3 wf2) trodAll_mk0))), rfl, bel.frame _, fun h => by cases h⟩
theorem domTells_said : Rows.DomTellsSaid :=
  OpenClaim.holds_of_wide 5 Tryz.f5 rfl rfl rfl rfl rfl rfl rfl ⟨rfl, rfl, rfl, rfl, rfl⟩ rfl rfl rfl rfl rfl (by kernel_rfl) Tryz.func5 (by kernel_rfl)
    (of_decide_eq_true (by kernel_rfl)) (by unfold Func.isWrapper; rw [if_neg (of_decide_eq_false (by kernel_rfl))]; exact ⟨rfl, rfl⟩)
    (fun os started H enc _ => domTells_lifted os started H enc)
theorem domTells_card : Rows.DomTellsCardSaid :=
  Claim7.holds_tied_plain_at .later [] [.data] true Rows.domTellsCard.stood.harness false domTells_said (fun _ h => by cases h) (by kernel_rfl) (fun _ h => by cases h) domTells_row_tie rfl ⟨rfl, rfl⟩ (by kernel_rfl) rfl
    (fun f fn hf hfn => by
      obtain rfl : f = 5 := Option.some.inj ((show Tryz.prog.funcNamed "intarsia/intarsialaw11.DomTells" = some 5 by kernel_rfl).symm.trans hf) |>.symm
      obtain rfl : fn = Tryz.f5 := (Option.some.inj (Tryz.func5.symm.trans hfn)).symm
      exact ⟨by kernel_rfl, fun j t ht => by
        rw [Tryz.params5] at ht
        have hm : t ∈ [25, 3, 3] := by simpa using Array.mem_of_getElem? ht
        have hall : ([25, 3, 3].all fun u => !Tryz.prog.wantsStandIn u) = true := by kernel_rfl
        exact (show Tryz.prog.wantsStandIn t = false by simpa using List.all_eq_true.1 hall t hm)⟩)
    (by kernel_rfl)
end Go.Proofs.YtkefmjhagmacfaaGreatDoor

