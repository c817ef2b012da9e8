/- DomGraphs (the tied card): for every input that can be read, the law DomGraphs returns true and its arguments read as before. Conditions: the row, its listed table of math/bits tied to the text of the program. -/
/- Part 5 of the proof of DomGraphsC: the texts Ref11C, Dom3, DomTells, DomGraphs, DomGraphsC, one behind the other. -/
import Derived.Test.YtkefmjhagmacfaaGreatDoorCards
import Derived.Test.YtkefmjhagmacfaaGreatDoorTie
import Derived.SevenTiedAt
import Derived.Test.YtkefmjhagmacfaaGreatDoorDomGraphsCM4
/- Reference 11: dominators, walked: Of, Both, Back. -/
namespace Go.Proofs.YtkefmjhagmacfaaGreatDoor
set_option linter.unusedVariables false
set_option linter.unusedSimpArgs false
open Go Go.RowKit
set_option maxRecDepth 100000
noncomputable def domO (ts : List Tm) : List Int := bif closed ts then domL ts else []
theorem last_both {ts : List Tm} (hc : closed ts = true) (a b : Nat) : lastF (tabF ts) a b (-1) ts.length = bothF ts (a : Int) (b : Int) := by
  have key : ∀ d x : Nat, overF ts (d : Int) (x : Int) = true ↔ Dom (gra ts hc) d x := over_dom hc
  have nat : ∀ d (x : Int), overF ts d x = true → ∃ k : Nat, d = (k : Int) := fun d x h => by
    obtain ⟨k, y, h1, _⟩ := (overF_iff hc (domL_ex hc)).1 h
    exact ⟨k, h1⟩
  rcases last_spec hc a b (-1) with ⟨h1, h2⟩ | ⟨m, h1, h2, h3, h4⟩
  · rw [h1]
    rcases both_spec hc (domL_ex hc) (a : Int) (b : Int) with ⟨i1, i2⟩ | ⟨p, i1, i2, i3, i4, i5⟩
    · exact i1.symm
    · exact absurd ⟨by omega, (key _ _).1 i3, (key _ _).1 i4⟩ (h2 p)
  · rw [h2]
    rcases both_spec hc (domL_ex hc) (a : Int) (b : Int) with ⟨i1, i2⟩ | ⟨p, i1, i2, i3, i4, i5⟩
    · exact absurd ⟨(key _ _).2 h3.2.1, (key _ _).2 h3.2.2⟩ (i2 _)
    · rw [i1]
      have e1 := h4 p (by omega) ((key _ _).1 i3) ((key _ _).1 i4)
      have e2 := (key _ _).1 (i5 m ((key _ _).2 h3.2.1) ((key _ _).2 h3.2.2))
      rw [dom_anti hc e2 e1]
theorem both_no {ts : List Tm} {a b : Int} (h : ((!closed ts) || (decide (a < 0) || (decide (b < 0) || (decide ((ts.length : Int) ≤ a) || decide ((ts.length : Int) ≤ b))))) = true) : bothF ts a b = -1 := by
  unfold bothF
  have : (closed ts && (inP (plL ts) a && inP (plL ts) b)) = false := by
    rw [Bool.eq_false_iff]
    intro h2
    simp only [Bool.and_eq_true, inP, decide_eq_true_eq, plL_len] at h2
    simp only [Bool.or_eq_true, Bool.not_eq_true', decide_eq_true_eq] at h
    rcases h with h | h | h | h | h
    · rw [h2.1] at h; cases h
    · omega
    · omega
    · omega
    · omega
  rw [this]
  rfl
theorem domO_len (ts : List Tm) : (domO ts).length ≤ ts.length := by
  unfold domO
  cases hc : closed ts with
  | false => exact Nat.zero_le _
  | true => exact Nat.le_of_eq (domL_ex hc).1
section
set_option maxHeartbeats 4000000 in
theorem ref11_Of_ct {w : World} {f : RFun} (hf : FunAt w w.heap.size f) (hfit : Fit f) (hbl : f.blocks.length ≤ 500) : Ct Tryz.prog 35 #[f.val] w (NewL 3 1 (domO f.terms).length (ints (domO f.terms))) := by
  have htl : f.terms.length = f.blocks.length := by simp [RFun.terms]
  refine Ct.mk Tryz.func35 rfl rfl ?_
  refine Cd.seq ?_
  refine Cd.region ?_
  refine Ol.x bxg ?_
  rintro _ _ ⟨g1, rfl, rfl⟩
  refine Ol.p ass ?_
  refine Ol.nil ?_
  refine Cd.seq ?_
  refine Cd.seq ?_
  refine Cd.region ?_
  refine Ol.p (ldw (cs := f.cells.toArray) ag_api_Func (i := 0) rfl rfl) ?_
  refine Ol.s (cl (v := .bool (closed f.terms)) en_ref10_Closed (fun M w' hh => ref10_Closed_ct (hf.now hh) hfit)) ?_
  refine Ol.p noti ?_
  refine Ol.nil ?_
  refine Cd.cond rfl (fun h => ?_) (fun h => ?_)   -- $8
  · have hcl : closed f.terms = false := by simpa using h
    have e : domO f.terms = [] := by unfold domO; rw [hcl]; rfl
    rw [e]
    refine Cd.nr 3 1 ?_
    refine Cd.seq ?_
    refine Cd.region ?_
    refine Ol.p ass ?_
    refine Ol.nil ?_
    exact Cd.ret ⟨.slice none 0 0, ret1 rfl rfl, _, .sub (.cons_cons _ (List.nil_sublist _)), none, 0, rfl, rfl⟩
  have hcl : closed f.terms = true := by simpa using h
  have e : domO f.terms = domL f.terms := by unfold domO; rw [hcl]; rfl
  have hdl := (domL_ex hcl).1
  have hat : ∀ x, x < f.terms.length → (domL f.terms)[x]? = some (lastF (tabF f.terms) x x (x : Int) f.terms.length) := fun x hx => last_of hcl hx
  rw [e]
  rw [htl] at hdl hat
  obtain ⟨D, hD⟩ : ∃ D, D = domL f.terms := ⟨_, rfl⟩
  rw [← hD] at hdl hat ⊢
  refine Cd.skip ?_
  refine Cd.seq ?_
  refine Cd.region ?_
  refine Ol.p (ldw (cs := f.cells.toArray) ag_api_Func (i := 0) rfl rfl) ?_
  refine Ol.x (sp_call (vs := [f.val]) en_ref11_rows (fun M w' hh => ref11_rows_ct (hf.now hh) hfit hbl)) ?_
  rintro _ _ ⟨_, rfl, A, c, gs, hgs, rfl, rfl⟩
  refine Ol.p ass ?_
  refine Ol.nil ?_
  obtain ⟨F, hF⟩ : ∃ F, F = tabF f.terms := ⟨_, rfl⟩
  rw [← hF] at hat ⊢
  obtain ⟨n, hn⟩ : ∃ n, n = f.blocks.length := ⟨_, rfl⟩
  rw [← hn] at hat hdl hgs hbl ⊢
  refine Cd.keep (L' := [blk g1 (.cells f.cells.toArray 25), row (.slice A n c) 79 1 n (hdB n gs)] ++ rwB 4 n F gs) (Keep.comm (A := row (.slice A n c) 79 1 n (hdB n gs) :: rwB 4 n F gs) (B := [_])) ?_
  refine Cd.nr 3 1 ?_
  refine Cd.seq ?_
  refine Cd.region ?_
  refine Ol.p ass ?_
  refine Ol.nil ?_
  refine Cd.seq ?_
  refine Cd.seq ?_
  refine Cd.region ?_
  refine Ol.p asi ?_
  refine Ol.nil ?_
  refine Cd.block ?_   -- 0
  refine Cd.loop (fun m σ L => ∃ (k : Nat) (A2 : Option Addr) (c2 : Nat), m = n - k ∧ k ≤ n ∧ Has σ [(1, .pointer (some ⟨g1, 0, none⟩)), (3, .slice A n c), (4, .slice A2 k c2), (5, .int .i64 k)] ∧ row (.slice A2 k c2) 3 1 k (ints (D.take k)) :: ([blk g1 (.cells f.cells.toArray 25), row (.slice A n c) 79 1 n (hdB n gs)] ++ rwB 4 n F gs) = L) (n := n) ⟨0, none, 0, rfl, Nat.zero_le _, ⟨rfl, rfl, rfl, rfl, trivial⟩, rfl⟩ ?_
  rintro _ σ L ⟨k, A2, c2, rfl, hk, hs, rfl⟩
  refine Cd.has hs ?_
  clear hs
  refine Cd.seq ?_
  refine Cd.seq ?_
  refine Cd.region ?_
  refine Ol.p mvi ?_
  refine Ol.p (fdl fd_api_Func_1) ?_
  refine Ol.p (ld (v := .slice f.bA f.blocks.length f.bC) one_L_api_Block (Rd.blk (i := 1) rfl rfl)) ?_
  refine Ol.p (lens sl_L_api_Block) ?_
  refine Ol.p lsi ?_
  refine Ol.nil ?_
  refine Cd.cond rfl (fun h => ?_) (fun h => ?_)   -- $15
  · have hlt : k < n := by rw [hn]; exact lt_of h
    refine Cd.skip ?_
    refine Cd.seq ?_
    refine Cd.block ?_   -- 1
    refine Cd.region ?_
    refine Ol.p mvs ?_
    refine Ol.p mvs ?_
    refine Ol.p mvi ?_
    refine Ol.p mvi ?_
    refine Ol.p mvi ?_
    refine Ol.s (cl (v := .int .i64 (lastF F k k (k : Int) n)) en_ref11_last (fun M w' hh => ref11_last_ct (hd := hdB n gs) (Reads.row hh (i := 2) rfl) (rows_read (i0 := 3) hgs hh rfl) hbl hlt hlt)) ?_
    refine Ol.x (bsv (ints [lastF F k k (k : Int) n]) sl_L_int zr_int (by simp [ints, Value.cells])) ?_
    rintro _ _ ⟨g24, rfl, rfl⟩
    refine Ol.x (apn (i := 1) (n := k) (m := 1) sl_L_int zr_int rfl (by decide) rfl (Src.row (i := 0) rfl rfl) (by intro v hv; simp [ints] at hv; subst hv; rfl) (by unfold maxLen; omega) (by omega)) ?_
    rintro _ _ ⟨A3, c3, rfl, rfl⟩
    refine Ol.p ass ?_
    refine Ol.keep (.sub (.cons _ (List.Sublist.refl _))) ?_
    refine Ol.nil ?_
    refine Cd.region ?_
    refine Ol.p mvi ?_
    refine Ol.p addi ?_
    refine Ol.p asi ?_
    refine Ol.nil ?_
    refine ⟨n - (k + 1), by omega, k + 1, A3, c3, rfl, by omega, ⟨rfl, rfl, rfl, rfl, trivial⟩, ?_⟩
    rw [take_snoc_ (hat k hlt), ints_cat]
    rfl
  have hke : k = n := by
    have := ge_of_ h
    omega
  refine Cd.exit (id := 0) ?_
  refine Cd.seq ?_
  refine Cd.region ?_
  refine Ol.p mvs ?_
  refine Ol.p ass ?_
  refine Ol.nil ?_
  rw [hke, List.take_of_length_le (by omega), hdl]
  exact Cd.ret ⟨.slice A2 n c2, ret1 rfl rfl, _, .sub (.cons_cons _ (List.nil_sublist _)), A2, c2, rfl, rfl⟩
end
section
set_option maxHeartbeats 4000000 in
theorem ref11_Both_ct {w : World} {f : RFun} {a b : Int} (hf : FunAt w w.heap.size f) (hfit : Fit f) (hbl : f.blocks.length ≤ 500) : Ct Tryz.prog 41 #[f.val, .int .i64 a, .int .i64 b] w (Is (.int .i64 (bothF f.terms a b))) := by
  have htl : f.terms.length = f.blocks.length := by simp [RFun.terms]
  refine Ct.mk Tryz.func41 rfl rfl ?_
  refine Cd.seq ?_
  refine Cd.region ?_
  refine Ol.x bxg ?_
  rintro _ _ ⟨g3, rfl, rfl⟩
  refine Ol.p asi ?_
  refine Ol.nil ?_
  refine Cd.seq ?_
  obtain ⟨C, hC⟩ : ∃ C, C = ((!closed f.terms) || (decide (a < 0) || (decide (b < 0) || (decide ((f.terms.length : Int) ≤ a) || decide ((f.terms.length : Int) ≤ b))))) := ⟨_, rfl⟩
  refine Cd.mid (fun σ' L' => Has σ' [(1, .int .i64 a), (2, .int .i64 b), (3, .pointer (some ⟨g3, 0, none⟩)), (31, .bool C)] ∧ [blk g3 (.cells f.cells.toArray 25)] = L') ?_ ?_
  · rw [htl] at hC
    cases hcl : closed f.terms with
    | false =>
      have hg : (!closed f.terms) = true := by rw [hcl]; rfl
      refine Cd.region ?_
      refine Ol.p (ldw (cs := f.cells.toArray) ag_api_Func (i := 0) rfl rfl) ?_
      refine Ol.s (cl (v := .bool (closed f.terms)) en_ref10_Closed (fun M w' hh => ref10_Closed_ct (hf.now hh) hfit)) ?_
      refine Ol.p noti ?_
      refine Ol.p mvb ?_
      refine Ol.gn hg ?_
      refine Ol.gn hg ?_
      refine Ol.p (pkTb hg) ?_
      refine Ol.p mvb ?_
      refine Ol.gn rfl ?_
      refine Ol.gn rfl ?_
      refine Ol.p (pkTb rfl) ?_
      refine Ol.p mvb ?_
      refine Ol.gn rfl ?_
      refine Ol.gn rfl ?_
      refine Ol.gn rfl ?_
      refine Ol.gn rfl ?_
      refine Ol.gn rfl ?_
      refine Ol.p (pkTb rfl) ?_
      refine Ol.p mvb ?_
      refine Ol.gn rfl ?_
      refine Ol.gn rfl ?_
      refine Ol.gn rfl ?_
      refine Ol.gn rfl ?_
      refine Ol.gn rfl ?_
      refine Ol.p (pkTb rfl) ?_
      refine Ol.nil ?_
      exact ⟨⟨rfl, rfl, rfl, congrArg Value.bool (by rw [hC, hcl]; rfl), trivial⟩, rfl⟩
    | true =>
      have hg : (!closed f.terms) = false := by rw [hcl]; rfl
      cases h1 : decide (a < 0) with
      | true =>
        refine Cd.region ?_
        refine Ol.p (ldw (cs := f.cells.toArray) ag_api_Func (i := 0) rfl rfl) ?_
        refine Ol.s (cl (v := .bool (closed f.terms)) en_ref10_Closed (fun M w' hh => ref10_Closed_ct (hf.now hh) hfit)) ?_
        refine Ol.p noti ?_
        refine Ol.p mvb ?_
        refine Ol.gp hg mvi ?_
        refine Ol.gp hg lsi ?_
        refine Ol.p (pkFb hg) ?_
        refine Ol.p mvb ?_
        refine Ol.gn h1 ?_
        refine Ol.gn h1 ?_
        refine Ol.p (pkTb h1) ?_
        refine Ol.p mvb ?_
        refine Ol.gn rfl ?_
        refine Ol.gn rfl ?_
        refine Ol.gn rfl ?_
        refine Ol.gn rfl ?_
        refine Ol.gn rfl ?_
        refine Ol.p (pkTb rfl) ?_
        refine Ol.p mvb ?_
        refine Ol.gn rfl ?_
        refine Ol.gn rfl ?_
        refine Ol.gn rfl ?_
        refine Ol.gn rfl ?_
        refine Ol.gn rfl ?_
        refine Ol.p (pkTb rfl) ?_
        refine Ol.nil ?_
        exact ⟨⟨rfl, rfl, rfl, congrArg Value.bool (by rw [hC, hcl, h1]; rfl), trivial⟩, rfl⟩
      | false =>
        cases h2 : decide (b < 0) with
        | true =>
          refine Cd.region ?_
          refine Ol.p (ldw (cs := f.cells.toArray) ag_api_Func (i := 0) rfl rfl) ?_
          refine Ol.s (cl (v := .bool (closed f.terms)) en_ref10_Closed (fun M w' hh => ref10_Closed_ct (hf.now hh) hfit)) ?_
          refine Ol.p noti ?_
          refine Ol.p mvb ?_
          refine Ol.gp hg mvi ?_
          refine Ol.gp hg lsi ?_
          refine Ol.p (pkFb hg) ?_
          refine Ol.p mvb ?_
          refine Ol.gp h1 mvi ?_
          refine Ol.gp h1 lsi ?_
          refine Ol.p (pkFb h1) ?_
          refine Ol.p mvb ?_
          refine Ol.gn h2 ?_
          refine Ol.gn h2 ?_
          refine Ol.gn h2 ?_
          refine Ol.gn h2 ?_
          refine Ol.gn h2 ?_
          refine Ol.p (pkTb h2) ?_
          refine Ol.p mvb ?_
          refine Ol.gn rfl ?_
          refine Ol.gn rfl ?_
          refine Ol.gn rfl ?_
          refine Ol.gn rfl ?_
          refine Ol.gn rfl ?_
          refine Ol.p (pkTb rfl) ?_
          refine Ol.nil ?_
          exact ⟨⟨rfl, rfl, rfl, congrArg Value.bool (by rw [hC, hcl, h1, h2]; rfl), trivial⟩, rfl⟩
        | false =>
          cases h3 : decide ((f.blocks.length : Int) ≤ a) with
          | true =>
            refine Cd.region ?_
            refine Ol.p (ldw (cs := f.cells.toArray) ag_api_Func (i := 0) rfl rfl) ?_
            refine Ol.s (cl (v := .bool (closed f.terms)) en_ref10_Closed (fun M w' hh => ref10_Closed_ct (hf.now hh) hfit)) ?_
            refine Ol.p noti ?_
            refine Ol.p mvb ?_
            refine Ol.gp hg mvi ?_
            refine Ol.gp hg lsi ?_
            refine Ol.p (pkFb hg) ?_
            refine Ol.p mvb ?_
            refine Ol.gp h1 mvi ?_
            refine Ol.gp h1 lsi ?_
            refine Ol.p (pkFb h1) ?_
            refine Ol.p mvb ?_
            refine Ol.gp h2 mvi ?_
            refine Ol.gp h2 (fdl fd_api_Func_1) ?_
            refine Ol.gp h2 (ld (v := .slice f.bA f.blocks.length f.bC) one_L_api_Block (Rd.blk (i := 0) rfl rfl)) ?_
            refine Ol.gp h2 (lens sl_L_api_Block) ?_
            refine Ol.gp h2 gei ?_
            refine Ol.p (pkFb h2) ?_
            refine Ol.p mvb ?_
            refine Ol.gn h3 ?_
            refine Ol.gn h3 ?_
            refine Ol.gn h3 ?_
            refine Ol.gn h3 ?_
            refine Ol.gn h3 ?_
            refine Ol.p (pkTb h3) ?_
            refine Ol.nil ?_
            exact ⟨⟨rfl, rfl, rfl, congrArg Value.bool (by rw [hC, hcl, h1, h2, h3]; rfl), trivial⟩, rfl⟩
          | false =>
            refine Cd.region ?_
            refine Ol.p (ldw (cs := f.cells.toArray) ag_api_Func (i := 0) rfl rfl) ?_
            refine Ol.s (cl (v := .bool (closed f.terms)) en_ref10_Closed (fun M w' hh => ref10_Closed_ct (hf.now hh) hfit)) ?_
            refine Ol.p noti ?_
            refine Ol.p mvb ?_
            refine Ol.gp hg mvi ?_
            refine Ol.gp hg lsi ?_
            refine Ol.p (pkFb hg) ?_
            refine Ol.p mvb ?_
            refine Ol.gp h1 mvi ?_
            refine Ol.gp h1 lsi ?_
            refine Ol.p (pkFb h1) ?_
            refine Ol.p mvb ?_
            refine Ol.gp h2 mvi ?_
            refine Ol.gp h2 (fdl fd_api_Func_1) ?_
            refine Ol.gp h2 (ld (v := .slice f.bA f.blocks.length f.bC) one_L_api_Block (Rd.blk (i := 0) rfl rfl)) ?_
            refine Ol.gp h2 (lens sl_L_api_Block) ?_
            refine Ol.gp h2 gei ?_
            refine Ol.p (pkFb h2) ?_
            refine Ol.p mvb ?_
            refine Ol.gp h3 mvi ?_
            refine Ol.gp h3 (fdl fd_api_Func_1) ?_
            refine Ol.gp h3 (ld (v := .slice f.bA f.blocks.length f.bC) one_L_api_Block (Rd.blk (i := 0) rfl rfl)) ?_
            refine Ol.gp h3 (lens sl_L_api_Block) ?_
            refine Ol.gp h3 gei ?_
            refine Ol.p (pkFb h3) ?_
            refine Ol.nil ?_
            exact ⟨⟨rfl, rfl, rfl, congrArg Value.bool (by rw [hC, hcl, h1, h2, h3]; rfl), trivial⟩, rfl⟩
  rintro σ' _ ⟨hs', rfl⟩
  refine Cd.has hs' ?_
  clear hs'
  refine Cd.cond rfl (fun h => ?_) (fun h => ?_)   -- $31
  · have h : C = true := h
    refine Cd.seq ?_
    refine Cd.region ?_
    refine Ol.p asi ?_
    refine Ol.nil ?_
    exact Cd.ret ⟨.int .i64 (-1), ret1 rfl rfl, [], .nil, by rw [both_no (hC ▸ h)], rfl⟩
  have h : C = false := h
  rw [hC] at h
  simp only [Bool.or_eq_false_iff, Bool.not_eq_false', decide_eq_false_iff_not] at h
  obtain ⟨hcl, h1, h2, h3, h4⟩ := h
  obtain ⟨x, rfl⟩ : ∃ x : Nat, a = (x : Int) := ⟨a.toNat, by omega⟩
  obtain ⟨y, rfl⟩ : ∃ y : Nat, b = (y : Int) := ⟨b.toNat, by omega⟩
  have hres := last_both hcl x y
  rw [htl] at h3 h4 hres
  have hxn : x < f.blocks.length := by omega
  have hyn : y < f.blocks.length := by omega
  refine Cd.skip ?_
  refine Cd.seq ?_
  refine Cd.region ?_
  refine Ol.p (ldw (cs := f.cells.toArray) ag_api_Func (i := 0) rfl rfl) ?_
  refine Ol.x (sp_call (vs := [f.val]) en_ref11_rows (fun M w' hh => ref11_rows_ct (hf.now hh) hfit hbl)) ?_
  rintro _ _ ⟨_, rfl, A, c, gs, hgs, rfl, rfl⟩
  refine Ol.p mvi ?_
  refine Ol.p mvi ?_
  refine Ol.s (cl (v := .int .i64 (lastF (tabF f.terms) x y (-1) f.blocks.length)) en_ref11_last (fun M w' hh => ref11_last_ct (hd := hdB f.blocks.length gs) (Reads.row hh (i := 0) rfl) (rows_read (i0 := 0) hgs (w0 := w) (B := w.heap.size) (M := M ++ [row (.slice A f.blocks.length c) 79 1 f.blocks.length (hdB f.blocks.length gs)]) (L := rwB 4 f.blocks.length (tabF f.terms) gs) (Keep.hp (M := M) (L' := [row (.slice A f.blocks.length c) 79 1 f.blocks.length (hdB f.blocks.length gs)] ++ rwB 4 f.blocks.length (tabF f.terms) gs) (Keep.fst (D := [_])) hh |> fun q => by rw [List.append_assoc]; exact q) rfl) hbl hxn hyn)) ?_
  refine Ol.p asi ?_
  refine Ol.nil ?_
  exact Cd.ret ⟨.int .i64 _, ret1 rfl rfl, [], .nil, by rw [hres], rfl⟩
end
/-- The edges back. -/
noncomputable def backE (ts : List Tm) : List Ed := (someE ts fun _ => true).filter fun e => overF ts e.to e.src
section
set_option maxHeartbeats 4000000 in
theorem ref11_Back_ct {w : World} {f : RFun} (hf : FunAt w w.heap.size f) (hfit : Fit f) (hbl : f.blocks.length ≤ 500) : Ct Tryz.prog 44 #[f.val] w (NewL 58 3 (backE f.terms).length (edV (backE f.terms))) := by
  have htl : f.terms.length = f.blocks.length := by simp [RFun.terms]
  refine Ct.mk Tryz.func44 rfl rfl ?_
  refine Cd.seq ?_
  refine Cd.region ?_
  refine Ol.x bxg ?_
  rintro _ _ ⟨g1, rfl, rfl⟩
  refine Ol.p ass ?_
  refine Ol.nil ?_
  refine Cd.seq ?_
  refine Cd.region ?_
  refine Ol.p ass ?_
  refine Ol.nil ?_
  refine Cd.seq ?_
  refine Cd.region ?_
  refine Ol.p (ldw (cs := f.cells.toArray) ag_api_Func (i := 0) rfl rfl) ?_
  refine Ol.x (sp_call (vs := [f.val]) en_ref10_Edges (fun M w' hh => ref10_Edges_ct (hf.now hh) hfit)) ?_
  rintro _ _ ⟨_, rfl, A8, c8, rfl, rfl⟩
  refine Ol.p ass ?_
  refine Ol.nil ?_
  refine Cd.seq ?_
  refine Cd.region ?_
  refine Ol.p (ldw (cs := f.cells.toArray) ag_api_Func (i := 1) rfl rfl) ?_
  refine Ol.x (sp_call (vs := [f.val]) en_ref11_rows (fun M w' hh => ref11_rows_ct (hf.now hh) hfit hbl)) ?_
  rintro _ _ ⟨_, rfl, A, c, gs, hgs, rfl, rfl⟩
  refine Ol.p ass ?_
  refine Ol.nil ?_
  have hE4 := someE_len_le f.terms fun _ => true
  have hEe : ∀ e ∈ someE f.terms (fun _ => true), ∃ et es : Nat, (et : Int) = e.to ∧ (es : Int) = e.src ∧ et < f.blocks.length ∧ es < f.blocks.length := fun e he => by
    have hcl : closed f.terms = true := by
      cases hc : closed f.terms with
      | true => rfl
      | false => unfold someE at he; rw [hc] at he; cases he
    have hem : e ∈ edges f.terms := by
      unfold someE at he
      rw [hcl] at he
      simpa using he
    obtain ⟨x1, x2, x3, x4⟩ := edge_to hcl hem
    have := src_range hem
    rw [htl] at x3 x4
    exact ⟨e.to.toNat, e.src.toNat, x1, by omega, x3, x4⟩
  have hres : backE f.terms = (someE f.terms fun _ => true).filter fun e => overF f.terms e.to e.src := rfl
  rw [hres]
  obtain ⟨p, hp⟩ : ∃ p : Ed → Bool, p = fun e => overF f.terms e.to e.src := ⟨_, rfl⟩
  have hpe : ∀ e : Ed, p e = overF f.terms e.to e.src := fun e => by rw [hp]
  rw [← hp]
  clear hres
  obtain ⟨E, hE⟩ : ∃ E, E = someE f.terms fun _ => true := ⟨_, rfl⟩
  rw [← hE] at hE4 hEe ⊢
  obtain ⟨n, hn⟩ : ∃ n, n = f.blocks.length := ⟨_, rfl⟩
  rw [← hn] at hEe hgs hbl ⊢
  refine Cd.keep (L' := [row (.slice A8 E.length c8) 58 3 E.length (edV E), blk g1 (.cells f.cells.toArray 25), row (.slice A n c) 79 1 n (hdB n gs)] ++ rwB 4 n (tabF f.terms) gs) (Keep.comm (A := row (.slice A n c) 79 1 n (hdB n gs) :: rwB 4 n (tabF f.terms) gs) (B := [_, _])) ?_
  refine Cd.nr 58 3 ?_
  refine Cd.seq ?_
  refine Cd.seq ?_
  refine Cd.region ?_
  refine Ol.p asi ?_
  refine Ol.nil ?_
  refine Cd.block ?_   -- 0
  obtain ⟨T, hT⟩ : ∃ T, T = [row (.slice A8 E.length c8) 58 3 E.length (edV E), blk g1 (.cells f.cells.toArray 25), row (.slice A n c) 79 1 n (hdB n gs)] ++ rwB 4 n (tabF f.terms) gs := ⟨_, rfl⟩
  have T0 : T[0]? = some (row (.slice A8 E.length c8) 58 3 E.length (edV E)) := by rw [hT]; rfl
  have T2 : T[2]? = some (row (.slice A n c) 79 1 n (hdB n gs)) := by rw [hT]; rfl
  have T3 : ∀ (i : Nat) r, (rwB 4 n (tabF f.terms) gs)[i]? = some r → T[i + 3]? = some r := fun i r h => by rw [hT]; exact h
  rw [← hT]
  refine Cd.loop (fun m σ L => ∃ (k : Nat) (A' : Option Addr) (c' m' : Nat), m = E.length - k ∧ k ≤ E.length ∧ m' = ((E.take k).filter p).length ∧ Has σ [(3, .slice A' m' c'), (4, .slice A8 E.length c8), (5, .slice A n c), (6, .int .i64 k)] ∧ row (.slice A' m' c') 58 3 m' (edV ((E.take k).filter p)) :: T = L) (n := E.length) ⟨0, none, 0, 0, rfl, Nat.zero_le _, rfl, ⟨rfl, rfl, rfl, rfl, trivial⟩, rfl⟩ ?_
  rintro _ σ L ⟨k, A', c', m', rfl, hk, hm, hs, rfl⟩
  refine Cd.has hs ?_
  clear hs
  refine Cd.seq ?_
  refine Cd.seq ?_
  refine Cd.region ?_
  refine Ol.p mvi ?_
  refine Ol.p mvs ?_
  refine Ol.p (lens sl_L_api_Edge) ?_
  refine Ol.p lsi ?_
  refine Ol.nil ?_
  refine Cd.cond rfl (fun h => ?_) (fun h => ?_)   -- $14
  · have hlt := lt_of h
    obtain ⟨e, he⟩ : ∃ e, E[k]? = some e := ⟨_, List.getElem?_eq_getElem hlt⟩
    have hto : (edV E)[k * 3 + 2]? = some (.int .i64 e.to) := edV_at he rfl
    have hsr : (edV E)[k * 3 + 0]? = some (.int .i64 e.src) := edV_at he rfl
    obtain ⟨et, es, x1, x2, x3, x4⟩ := hEe e (List.mem_of_getElem? he)
    obtain ⟨gx, ix, h1, h2⟩ := rwB_get (e := 4) (n := n) (F := tabF f.terms) (gs := gs) (d := et) (by omega)
    have h3 := T3 _ _ h2
    have hpt : p e = tabF f.terms et es := by rw [hpe]; unfold tabF; rw [x1, x2]
    have hnk : m' ≤ k := by rw [hm]; exact Nat.le_trans (List.length_filter_le _ _) (by simp; omega)
    have hsn : (E.take (k + 1)).filter p = (E.take k).filter p ++ (if p e = true then [e] else []) := by
      rw [take_snoc_ he, List.filter_append]
      congr 1
      by_cases hp : p e = true <;> simp [List.filter, hp]
    refine Cd.skip ?_
    refine Cd.mid (fun σ' L' => ∃ (A' : Option Addr) (c' m' : Nat), m' = ((E.take (k + 1)).filter p).length ∧ Has σ' [(3, .slice A' m' c'), (4, .slice A8 E.length c8), (5, .slice A n c), (6, .int .i64 k)] ∧ row (.slice A' m' c') 58 3 m' (edV ((E.take (k + 1)).filter p)) :: T = L') ?_ ?_
    · skip
      refine Cd.block ?_   -- 1
      refine Cd.seq ?_
      refine Cd.draw mixed 15 (fun _ => none) (fun _ => []) (by kernel_rfl) (fun _ _ h => by cases h) (fun u hu => ?_)
      refine Wk.p mvs ?_
      refine Wk.p mvs ?_
      refine Wk.p mvi ?_
      refine Wk.p (ixn (ix := k) sl_L_api_Edge (Som.row (i := 1) T0 (by omega))) ?_
      refine Wk.p (fdp fd_api_Edge_2) ?_
      refine Wk.p (ld (v := .int .i64 e.to) one_int (Rd.row (i := 1) T0 hto)) ?_
      refine Wk.p (ixn1 (ix := et) sl_L_L_bool (Som.row (i := 3) T2 (by omega)) (hy := congrArg (Value.int .i64) x1.symm)) ?_
      refine Wk.p (ld (v := .slice (some ⟨gx, 0, none⟩) n n) one_L_bool (Rd.row (i := 3) T2 h1)) ?_
      refine Wk.p mvs ?_
      refine Wk.p mvi ?_
      refine Wk.p (ixn (ix := k) sl_L_api_Edge (Som.row (i := 1) T0 (by omega))) ?_
      refine Wk.p (fdp fd_api_Edge_0) ?_
      refine Wk.p (ld (v := .int .i64 e.src) one_int (Rd.row (i := 1) T0 hsr)) ?_
      refine Wk.p (ixn1 (ix := es) sl_L_bool (Som.row (i := ix + 3 + 1) h3 (by omega)) (hy := congrArg (Value.int .i64) x2.symm)) ?_
      refine Wk.p (ld (v := .bool (tabF f.terms et es)) one_bool (Rd.row (i := ix + 3 + 1) h3 (boolsL_get x4))) ?_
      refine Wk.nil ?_
      refine Ol.nil ?_
      rw [← hpt]
      refine Cd.cond rfl (fun h => ?_) (fun h => ?_)   -- $31
      · have h : p e = true := h
        refine Cd.region ?_
        refine Ol.p mvs ?_
        refine Ol.p mvs ?_
        refine Ol.p mvi ?_
        refine Ol.p (ixn (ix := k) sl_L_api_Edge (Som.row (i := 1) T0 (by omega))) ?_
        refine Ol.p (ldr (es := e.cells) ag_api_Edge (i := 1) T0 e.len (fun j u hu => edV_at he hu)) ?_
        refine Ol.x (bsn [e.val] sl_L_api_Edge zr_api_Edge (by intro v hv; cases hv with | head => rfl | tail _ h => cases h) rfl (by decide) (by decide)) ?_
        rintro _ _ ⟨g37, rfl, rfl⟩
        refine Ol.x (apn (i := 1) (n := m') (m := 1) sl_L_api_Edge zr_api_Edge rfl (by decide) rfl (Src.row (i := 0) rfl rfl) e.one1 (by unfold maxLen; omega) (by omega)) ?_
        rintro _ _ ⟨A2, c2, rfl, rfl⟩
        refine Ol.p ass ?_
        refine Ol.keep (.sub (.cons _ (List.Sublist.refl _))) ?_
        refine Ol.nil ?_
        refine ⟨A2, c2, m' + 1, ?_, ⟨rfl, rfl, rfl, rfl, trivial⟩, ?_⟩
        · rw [hsn, if_pos h, List.length_append, ← hm]; rfl
        · rw [hsn, if_pos h, edV_app]
          rfl
      have h : p e = false := h
      refine Cd.skip ?_
      refine ⟨A', c', m', ?_, ⟨rfl, rfl, rfl, rfl, trivial⟩, ?_⟩
      · rw [hsn, if_neg (by rw [h]; simp), List.append_nil]; exact hm
      · rw [hsn, if_neg (by rw [h]; simp), List.append_nil]; rfl
    rintro σ' _ ⟨A', c', m', hm', hs', rfl⟩
    refine Cd.has hs' ?_
    refine Cd.region ?_
    refine Ol.p mvi ?_
    refine Ol.p addi ?_
    refine Ol.p asi ?_
    refine Ol.nil ?_
    exact ⟨E.length - (k + 1), by omega, k + 1, A', c', m', rfl, by omega, hm', ⟨rfl, rfl, rfl, rfl, trivial⟩, rfl⟩
  have hke : k = E.length := by
    have := ge_of_ h
    omega
  refine Cd.exit (id := 0) ?_
  refine Cd.seq ?_
  refine Cd.region ?_
  refine Ol.p mvs ?_
  refine Ol.p ass ?_
  refine Ol.nil ?_
  rw [hke, List.take_length] at hm ⊢
  rw [← hm]
  exact Cd.ret ⟨.slice A' m' c', ret1 rfl rfl, _, .sub (.cons_cons _ (List.nil_sublist _)), A', c', rfl, rfl⟩
end
end Go.Proofs.YtkefmjhagmacfaaGreatDoor

/- Dominators: Below and Back, walked. -/
namespace Go.Proofs.YtkefmjhagmacfaaGreatDoor
set_option linter.unusedVariables false
set_option linter.unusedSimpArgs false
open Go Go.RowKit
set_option maxRecDepth 100000
theorem belowN_contains (ts : List Tm) (a : Int) (n i : Nat) : (belowN ts a n).contains i = (decide (i < n) && overF ts a (i : Int)) := by
  rw [Bool.eq_iff_iff, List.contains_iff_mem]
  unfold belowN
  rw [List.mem_filter, List.mem_range, Bool.and_eq_true, decide_eq_true_eq]
theorem listS_below {ts : List Tm} {a : Int} {n : Nat} (hn : n ≤ 1024) : listS (ofL (natL (belowN ts a n))) = belowN ts a n := by
  have hb := belowN_contains ts a n
  have e : 1024 = n + (1024 - n) := by omega
  unfold listS upto
  rw [e]
  refine filter_range (fun i hi => ?_) (fun i hi => ?_) _
  · rw [testBit_ofL, natL_contains, (okN_iff (n := (i : Int))).2 ⟨by omega, by omega⟩, Bool.true_and, hb, decide_eq_true hi, Bool.true_and]
  · rw [testBit_ofL, natL_contains, hb, decide_eq_false (by omega : ¬ i < n), Bool.false_and, Bool.and_false]
theorem ofL_snoc (l : List Nat) (x : Nat) : ofL (natL (l ++ [x])) = withL (ofL (natL l)) [(x : Int)] := by
  unfold ofL withL
  rw [natL_app, List.foldl_append]
  rfl
section
set_option maxHeartbeats 2000000 in
theorem dom_Below_ct {w : World} {f : RFun} {a : Int} (hT : Tabs w w.heap.size) (hf : FunAt w w.heap.size f) (hfit : Fit f) (hbl : f.blocks.length ≤ 500) : Ct Tryz.prog 38 #[f.val, .int .i64 a] w (NewL 3 1 (belowN f.terms a f.blocks.length).length (intsN (belowN f.terms a f.blocks.length))) := by
  have htl : f.terms.length = f.blocks.length := by simp [RFun.terms]
  refine Ct.mk Tryz.func38 rfl rfl ?_
  refine Cd.seq ?_
  refine Cd.region ?_
  refine Ol.x bxg ?_
  rintro _ _ ⟨g2, rfl, rfl⟩
  refine Ol.p ass ?_
  refine Ol.nil ?_
  refine Cd.seq ?_
  refine Cd.region ?_
  refine Ol.p (ldw (cs := f.cells.toArray) ag_api_Func (i := 0) rfl rfl) ?_
  refine Ol.x (sp_call (vs := [f.val]) en_dom_made (fun M w' hh => dom_made_ct (hf.now hh) hfit)) ?_
  rintro _ _ ⟨_, rfl, ⟨hc, rfl, rfl⟩ | ⟨hc, hd, gU, gP, rfl, rfl⟩⟩
  · skip
    refine Ol.x (alc zr_dom_tree) ?_
    rintro _ _ ⟨g5, rfl, rfl⟩
    refine Ol.s (stw (vs := #[.slice none 0 0, .slice none 0 0]) sz_dom_tree rfl (by intro u hu; simp at hu; subst hu; rfl) (i := 0) rfl rfl) ?_
    refine Ol.nil ?_
    refine Cd.seq ?_
    refine Cd.region ?_
    refine Ol.x (alc zr_bits_Set) ?_
    rintro _ _ ⟨g6, rfl, rfl⟩
    refine Ol.nil ?_
    refine Cd.seq ?_
    refine Cd.seq ?_
    refine Cd.region ?_
    refine Ol.p (fdl fd_dom_tree_0) ?_
    refine Ol.p (ld (v := .slice none 0 0) one_L_int (Rd.blk (i := 1) rfl rfl)) ?_
    refine Ol.p (lens sl_L_int) ?_
    refine Ol.p mvi ?_
    refine Ol.nil ?_
    refine Cd.keep (L' := [blk g6 (.cells (enc 0) 70)]) (by rw [enc0]; exact .sub (.cons_cons _ (List.nil_sublist _))) ?_
    refine Cd.block ?_   -- 0
    refine Cd.loop (fun m σ L => m = 0 ∧ Has σ [(6, .pointer (some ⟨g6, 0, none⟩)), (12, .int .i64 ((0 : Nat) : Int)), (13, .int .i64 0)] ∧ [blk g6 (.cells (enc 0) 70)] = L) (n := 0) ⟨rfl, ⟨rfl, rfl, rfl, trivial⟩, rfl⟩ ?_
    rintro _ σ L ⟨rfl, hs, rfl⟩
    refine Cd.has hs ?_
    clear hs
    refine Cd.seq ?_
    refine Cd.region ?_
    refine Ol.p lsi ?_
    refine Ol.nil ?_
    refine Cd.seq ?_
    refine Cd.cond rfl (fun h => nomatch h) (fun h => ?_)   -- $14
    refine Cd.exit (id := 0) ?_
    refine Cd.seq ?_
    refine Cd.region ?_
    refine Ol.p (ldw (cs := enc 0) ag_bits_Set (i := 0) rfl (enc_size _)) ?_
    refine Ol.x (sp_call (vs := [.agg (enc 0)]) en_bits_Set_List (fun M w' hh => bits_Set_List_ct (s := 0) (hT.now hh))) ?_
    rintro _ _ ⟨_, rfl, A26, c26, rfl, rfl⟩
    refine Ol.p ass ?_
    refine Ol.nil ?_
    have e0 := listS_below (ts := f.terms) (a := a) (n := f.blocks.length) (by omega)
    rw [belowN_no hc] at e0 ⊢
    have e1 : listS 0 = [] := e0
    rw [e1]
    exact Cd.ret ⟨.slice A26 0 c26, ret1 rfl rfl, _, .sub (.cons_cons _ (List.nil_sublist _)), A26, c26, rfl, rfl⟩
  · skip
    refine Ol.x (alc zr_dom_tree) ?_
    rintro _ _ ⟨g5, rfl, rfl⟩
    refine Ol.s (stw (vs := #[.slice (some ⟨gU, 0, none⟩) f.terms.length f.terms.length, .slice (some ⟨gP, 0, none⟩) f.terms.length f.terms.length]) sz_dom_tree rfl (by intro u hu; simp at hu; rcases hu with rfl | rfl <;> rfl) (i := 0) rfl rfl) ?_
    refine Ol.nil ?_
    refine Cd.seq ?_
    refine Cd.region ?_
    refine Ol.x (alc zr_bits_Set) ?_
    rintro _ _ ⟨g6, rfl, rfl⟩
    refine Ol.nil ?_
    refine Cd.seq ?_
    refine Cd.seq ?_
    refine Cd.region ?_
    refine Ol.p (fdl fd_dom_tree_0) ?_
    refine Ol.p (ld (v := .slice (some ⟨gU, 0, none⟩) f.terms.length f.terms.length) one_L_int (Rd.blk (i := 1) rfl rfl)) ?_
    refine Ol.p (lens sl_L_int) ?_
    refine Ol.p mvi ?_
    refine Ol.nil ?_
    refine Cd.keep (L' := [blk g6 (.cells (enc 0) 70), blk g5 (.cells #[.slice (some ⟨gU, 0, none⟩) f.terms.length f.terms.length, .slice (some ⟨gP, 0, none⟩) f.terms.length f.terms.length] 103), blk gP (.cells (ints (plL f.terms)).toArray 3), blk gU (.cells (ints (domL f.terms)).toArray 3)]) (by rw [enc0]; exact .sub (.cons_cons _ (.cons_cons _ (.cons_cons _ (.cons_cons _ (List.nil_sublist _)))))) ?_
    refine Cd.block ?_   -- 0
    refine Cd.loop (fun m σ L => ∃ k : Nat, m = f.terms.length - k ∧ k ≤ f.terms.length ∧ Has σ [(1, .int .i64 a), (5, .pointer (some ⟨g5, 0, none⟩)), (6, .pointer (some ⟨g6, 0, none⟩)), (12, .int .i64 f.terms.length), (13, .int .i64 k)] ∧ [blk g6 (.cells (enc (ofL (natL (belowN f.terms a k)))) 70), blk g5 (.cells #[.slice (some ⟨gU, 0, none⟩) f.terms.length f.terms.length, .slice (some ⟨gP, 0, none⟩) f.terms.length f.terms.length] 103), blk gP (.cells (ints (plL f.terms)).toArray 3), blk gU (.cells (ints (domL f.terms)).toArray 3)] = L) (n := f.terms.length) ⟨0, rfl, Nat.zero_le _, ⟨rfl, rfl, rfl, rfl, rfl, trivial⟩, rfl⟩ ?_
    rintro _ σ L ⟨k, rfl, hk, hs, rfl⟩
    refine Cd.has hs ?_
    clear hs
    refine Cd.seq ?_
    refine Cd.region ?_
    refine Ol.p lsi ?_
    refine Ol.nil ?_
    refine Cd.seq ?_
    refine Cd.cond rfl (fun h => ?_) (fun h => ?_)   -- $14
    · have hlt : k < f.terms.length := lt_of h
      refine Cd.skip ?_
      refine Cd.mid (fun σ' L' => Has σ' [(1, .int .i64 a), (5, .pointer (some ⟨g5, 0, none⟩)), (6, .pointer (some ⟨g6, 0, none⟩)), (12, .int .i64 f.terms.length), (13, .int .i64 k)] ∧ [blk g6 (.cells (enc (ofL (natL (belowN f.terms a (k + 1))))) 70), blk g5 (.cells #[.slice (some ⟨gU, 0, none⟩) f.terms.length f.terms.length, .slice (some ⟨gP, 0, none⟩) f.terms.length f.terms.length] 103), blk gP (.cells (ints (plL f.terms)).toArray 3), blk gU (.cells (ints (domL f.terms)).toArray 3)] = L') ?_ ?_
      · skip
        refine Cd.block ?_   -- 1
        refine Cd.seq ?_
        refine Cd.region ?_
        refine Ol.p mvi ?_
        refine Ol.p asi ?_
        refine Ol.nil ?_
        refine Cd.seq ?_
        refine Cd.region ?_
        refine Ol.p (ldw (cs := #[.slice (some ⟨gU, 0, none⟩) f.terms.length f.terms.length, .slice (some ⟨gP, 0, none⟩) f.terms.length f.terms.length]) ag_dom_tree (i := 1) rfl rfl) ?_
        refine Ol.p mvi ?_
        refine Ol.p mvi ?_
        refine Ol.s (cl (v := .bool (overF f.terms a (k : Int))) en_dom_tree_over (fun M w' hh => by have := dom_over_ct (w := w') (ul := domL f.terms) (pl := plL f.terms) (AU := some ⟨gU, 0, none⟩) (AP := some ⟨gP, 0, none⟩) (cU := f.terms.length) (cP := f.terms.length) (a := a) (b := (k : Int)) (Reads.blk hh (i := 3) rfl (by simp [ints]) (fun j u hu => by simpa using hu)) (Reads.blk hh (i := 2) rfl (by simp [ints]) (fun j u hu => by simpa using hu)) (by rw [plL_len]; have := (closed_le hc).2; omega) (fun _ => Up.of hc hd) (by have := (closed_le hc).2; omega); rw [hd.1, plL_len, ← overF_ups hc] at this; exact this)) ?_
        refine Ol.nil ?_
        refine Cd.cond rfl (fun h => ?_) (fun h => ?_)   -- $19
        · have h : overF f.terms a (k : Int) = true := h
          refine Cd.region ?_
          refine Ol.p (ldw (cs := enc (ofL (natL (belowN f.terms a k)))) ag_bits_Set (i := 0) rfl (enc_size _)) ?_
          refine Ol.p mvi ?_
          refine Ol.x (bsv (ints [(k : Int)]) sl_L_int zr_int (by simp [ints, Value.cells])) ?_
          rintro _ _ ⟨g22, rfl, rfl⟩
          refine Ol.s (cl (v := .agg (enc (withL (ofL (natL (belowN f.terms a k))) [(k : Int)]))) en_bits_Set_With (fun M w' hh => bits_Set_With_ct (l := [(k : Int)]) (Reads.row hh (i := 0) rfl) (by intro x hx; simp at hx; subst hx; unfold I64; have := (closed_le hc).2; omega) (by simp))) ?_
          refine Ol.s (stw sz_bits_Set (enc_size _) (encF_one _) (i := 1) rfl (enc_size _)) ?_
          refine Ol.keep (.sub (.cons _ (List.Sublist.refl _))) ?_
          refine Ol.nil ?_
          refine ⟨⟨rfl, rfl, rfl, rfl, rfl, trivial⟩, ?_⟩
          rw [belowN_succ, if_pos h, ofL_snoc]
          rfl
        have h : overF f.terms a (k : Int) = false := h
        refine Cd.skip ?_
        refine ⟨⟨rfl, rfl, rfl, rfl, rfl, trivial⟩, ?_⟩
        rw [belowN_succ, if_neg (by rw [h]; simp), List.append_nil]
      rintro σ' _ ⟨hs', rfl⟩
      refine Cd.has hs' ?_
      refine Cd.region ?_
      refine Ol.p addi ?_
      refine Ol.p mvi ?_
      refine Ol.nil ?_
      exact ⟨f.terms.length - (k + 1), by omega, k + 1, rfl, by omega, ⟨rfl, rfl, rfl, rfl, rfl, trivial⟩, rfl⟩
    have hke : k = f.terms.length := by
      have := ge_of_ h
      omega
    refine Cd.exit (id := 0) ?_
    refine Cd.seq ?_
    refine Cd.region ?_
    refine Ol.p (ldw (cs := enc (ofL (natL (belowN f.terms a k)))) ag_bits_Set (i := 0) rfl (enc_size _)) ?_
    refine Ol.x (sp_call (vs := [.agg (enc (ofL (natL (belowN f.terms a k))))]) en_bits_Set_List (fun M w' hh => bits_Set_List_ct (s := ofL (natL (belowN f.terms a k))) (hT.now hh))) ?_
    rintro _ _ ⟨_, rfl, A26, c26, rfl, rfl⟩
    refine Ol.p ass ?_
    refine Ol.nil ?_
    rw [hke, htl, listS_below (by omega)]
    exact Cd.ret ⟨.slice A26 _ c26, ret1 rfl rfl, _, .sub (.cons_cons _ (List.nil_sublist _)), A26, c26, rfl, rfl⟩
end
section
theorem dom_ring_ct {w : World} {AU AP : Option Addr} {cU cP N : Nat} {ul pl : List Int} {G : Gra} {e : Ed} (hU : Reads w w.heap.size 1 AU ul.length (ints ul)) (hP : Reads w w.heap.size 1 AP pl.length (ints pl)) (hpn : pl.length < 2 ^ 50) (h : inP pl e.src = true → Up ul pl N G) (hb : -9223372036854775808 ≤ e.src ∧ e.src ≤ 9223372036854775807) :
    Ct Tryz.prog 78 #[treeV AU AP ul.length pl.length cU cP, e.val] w (Is (.bool ((upsC ul pl N e.src).any fun d => decide ((d : Int) = e.to)))) := by
  refine Ct.mk Tryz.func78 rfl rfl ?_
  refine Cd.seq ?_
  refine Cd.region ?_
  refine Ol.x bxg ?_
  rintro _ _ ⟨g2, rfl, rfl⟩
  refine Ol.x bxg ?_
  rintro _ _ ⟨g3, rfl, rfl⟩
  refine Ol.p asb ?_
  refine Ol.nil ?_
  refine Cd.seq ?_
  refine Cd.region ?_
  refine Ol.p (ldw (cs := #[.slice AU ul.length cU, .slice AP pl.length cP]) ag_dom_tree (i := 1) rfl rfl) ?_
  refine Ol.p (fdl fd_api_Edge_2) ?_
  refine Ol.p (ld (v := .int .i64 e.to) one_int (Rd.blk (i := 0) rfl rfl)) ?_
  refine Ol.p (fdl fd_api_Edge_0) ?_
  refine Ol.p (ld (v := .int .i64 e.src) one_int (Rd.blk (i := 0) rfl rfl)) ?_
  refine Ol.s (cl (v := .bool ((upsC ul pl N e.src).any fun d => decide ((d : Int) = e.to))) en_dom_tree_over (fun M w' hh => dom_over_ct (a := e.to) (hU.now hh) (hP.now hh) hpn h hb)) ?_
  refine Ol.p asb ?_
  refine Ol.nil ?_
  exact Cd.ret ⟨.bool _, ret1 rfl rfl, [], .nil, rfl, rfl⟩
set_option maxHeartbeats 2000000 in
theorem dom_Back_ct {w : World} {f : RFun} (hf : FunAt w w.heap.size f) (hfit : Fit f) : Ct Tryz.prog 43 #[f.val] w (NewL 58 3 (backE f.terms).length (edV (backE f.terms))) := by
  have htl : f.terms.length = f.blocks.length := by simp [RFun.terms]
  refine Ct.mk Tryz.func43 rfl rfl ?_
  refine Cd.seq ?_
  refine Cd.region ?_
  refine Ol.x bxg ?_
  rintro _ _ ⟨g1, rfl, rfl⟩
  refine Ol.p ass ?_
  refine Ol.nil ?_
  refine Cd.seq ?_
  refine Cd.region ?_
  refine Ol.p (ldw (cs := f.cells.toArray) ag_api_Func (i := 0) rfl rfl) ?_
  refine Ol.x (sp_call (vs := [f.val]) en_dom_made (fun M w' hh => dom_made_ct (hf.now hh) hfit)) ?_
  rintro _ _ ⟨_, rfl, ⟨hc, rfl, rfl⟩ | ⟨hc, hd, gU, gP, rfl, rfl⟩⟩
  · skip
    refine Ol.p mkf ?_
    refine Ol.p asf ?_
    refine Ol.nil ?_
    refine Cd.seq ?_
    refine Cd.seq ?_
    refine Cd.region ?_
    refine Ol.p (ldw (cs := f.cells.toArray) ag_api_Func (i := 0) rfl rfl) ?_
    refine Ol.x (sp_call (vs := [f.val]) en_flow_Edges (fun M w' hh => flow_Edges_ct (hf.now hh) hfit)) ?_
    rintro _ _ ⟨_, rfl, A10, c10, rfl, rfl⟩
    refine Ol.p (lens sl_L_api_Edge) ?_
    refine Ol.p mvi ?_
    refine Ol.nil ?_
    have e0 : (someE f.terms fun _ => true) = [] := by unfold someE; rw [hc]; rfl
    have e1 : backE f.terms = [] := by unfold backE; rw [e0]; rfl
    rw [e0, e1]
    refine Cd.nr 58 3 ?_
    refine Cd.keep (L' := [row (.slice none 0 0) 58 3 0 []]) (.sub (.cons_cons _ (List.nil_sublist _))) ?_
    refine Cd.block ?_   -- 0
    refine Cd.loop (fun m σ L => m = 0 ∧ Has σ [(2, .slice none 0 0), (11, .int .i64 ((0 : Nat) : Int)), (12, .int .i64 0)] ∧ [row (.slice none 0 0) 58 3 0 []] = L) (n := 0) ⟨rfl, ⟨rfl, rfl, rfl, trivial⟩, rfl⟩ ?_
    rintro _ σ L ⟨rfl, hs, rfl⟩
    refine Cd.has hs ?_
    clear hs
    refine Cd.seq ?_
    refine Cd.region ?_
    refine Ol.p lsi ?_
    refine Ol.nil ?_
    refine Cd.seq ?_
    refine Cd.cond rfl (fun h => nomatch h) (fun h => ?_)   -- $13
    refine Cd.exit (id := 0) ?_
    refine Cd.seq ?_
    refine Cd.region ?_
    refine Ol.p mvs ?_
    refine Ol.p ass ?_
    refine Ol.nil ?_
    exact Cd.ret ⟨.slice none 0 0, ret1 rfl rfl, _, .sub (.cons_cons _ (List.nil_sublist _)), none, 0, rfl, rfl⟩
  · skip
    refine Ol.p mkf ?_
    refine Ol.p asf ?_
    refine Ol.nil ?_
    refine Cd.seq ?_
    refine Cd.seq ?_
    refine Cd.region ?_
    refine Ol.p (ldw (cs := f.cells.toArray) ag_api_Func (i := 2) rfl rfl) ?_
    refine Ol.x (sp_call (vs := [f.val]) en_flow_Edges (fun M w' hh => flow_Edges_ct (hf.now hh) hfit)) ?_
    rintro _ _ ⟨_, rfl, A10, c10, rfl, rfl⟩
    refine Ol.p (lens sl_L_api_Edge) ?_
    refine Ol.p mvi ?_
    refine Ol.nil ?_
    have hE4 := someE_len_le f.terms fun _ => true
    have hEe : ∀ e ∈ someE f.terms (fun _ => true), -9223372036854775808 ≤ e.src ∧ e.src ≤ 9223372036854775807 := fun e he => by
      have hem : e ∈ edges f.terms := by
        unfold someE at he
        rw [hc] at he
        simpa using he
      obtain ⟨x1, x2, x3, x4⟩ := edge_to hc hem
      have := src_range hem
      have := (closed_le hc).2
      omega
    have hres : backE f.terms = (someE f.terms fun _ => true).filter fun e => overF f.terms e.to e.src := rfl
    rw [hres]
    obtain ⟨p, hp⟩ : ∃ p : Ed → Bool, p = fun e => overF f.terms e.to e.src := ⟨_, rfl⟩
    have hpe : ∀ e : Ed, p e = overF f.terms e.to e.src := fun e => by rw [hp]
    rw [← hp]
    clear hres
    obtain ⟨E, hE⟩ : ∃ E, E = someE f.terms fun _ => true := ⟨_, rfl⟩
    rw [← hE] at hE4 hEe ⊢
    refine Cd.nr 58 3 ?_
    refine Cd.keep (L' := [row (.slice none 0 0) 58 3 0 [], row (.slice A10 E.length c10) 58 3 E.length (edV E), blk gP (.cells (ints (plL f.terms)).toArray 3), blk gU (.cells (ints (domL f.terms)).toArray 3)]) (.sub (.cons_cons _ (.cons_cons _ (.cons_cons _ (.cons_cons _ (List.nil_sublist _)))))) ?_
    refine Cd.block ?_   -- 0
    refine Cd.loop (fun m σ L => ∃ (k : Nat) (A' : Option Addr) (c' m' : Nat), m = E.length - k ∧ k ≤ E.length ∧ m' = ((E.take k).filter p).length ∧ Has σ [(2, .slice A' m' c'), (3, .func (.func 78) #[treeV (some ⟨gU, 0, none⟩) (some ⟨gP, 0, none⟩) f.terms.length f.terms.length f.terms.length f.terms.length] #[]), (10, .slice A10 E.length c10), (11, .int .i64 E.length), (12, .int .i64 k)] ∧ [row (.slice A' m' c') 58 3 m' (edV ((E.take k).filter p)), row (.slice A10 E.length c10) 58 3 E.length (edV E), blk gP (.cells (ints (plL f.terms)).toArray 3), blk gU (.cells (ints (domL f.terms)).toArray 3)] = L) (n := E.length) ⟨0, none, 0, 0, rfl, Nat.zero_le _, rfl, ⟨rfl, rfl, rfl, rfl, rfl, trivial⟩, rfl⟩ ?_
    rintro _ σ L ⟨k, A', c', m', rfl, hk, hm, hs, rfl⟩
    refine Cd.has hs ?_
    clear hs
    refine Cd.seq ?_
    refine Cd.region ?_
    refine Ol.p lsi ?_
    refine Ol.nil ?_
    refine Cd.seq ?_
    refine Cd.cond rfl (fun h => ?_) (fun h => ?_)   -- $13
    · have hlt := lt_of h
      obtain ⟨e, he⟩ : ∃ e, E[k]? = some e := ⟨_, List.getElem?_eq_getElem hlt⟩
      have her := hEe e (List.mem_of_getElem? he)
      have hpt := hpe e
      have hnk : m' ≤ k := by rw [hm]; exact Nat.le_trans (List.length_filter_le _ _) (by simp; omega)
      have hsn : (E.take (k + 1)).filter p = (E.take k).filter p ++ (if p e = true then [e] else []) := by
        rw [take_snoc_ he, List.filter_append]
        congr 1
        by_cases hp : p e = true <;> simp [List.filter, hp]
      refine Cd.skip ?_
      refine Cd.mid (fun σ' L' => ∃ (A' : Option Addr) (c' m' : Nat), m' = ((E.take (k + 1)).filter p).length ∧ Has σ' [(2, .slice A' m' c'), (3, .func (.func 78) #[treeV (some ⟨gU, 0, none⟩) (some ⟨gP, 0, none⟩) f.terms.length f.terms.length f.terms.length f.terms.length] #[]), (10, .slice A10 E.length c10), (11, .int .i64 E.length), (12, .int .i64 k)] ∧ Keep L' [row (.slice A' m' c') 58 3 m' (edV ((E.take (k + 1)).filter p)), row (.slice A10 E.length c10) 58 3 E.length (edV E), blk gP (.cells (ints (plL f.terms)).toArray 3), blk gU (.cells (ints (domL f.terms)).toArray 3)]) ?_ ?_
      · skip
        refine Cd.block ?_   -- 1
        refine Cd.seq ?_
        refine Cd.region ?_
        refine Ol.p (ixn (ix := k) sl_L_api_Edge (Som.row (i := 1) rfl (by omega))) ?_
        refine Ol.p (ldr (es := e.cells) ag_api_Edge (i := 1) rfl e.len (fun j u hu => edV_at he hu)) ?_
        refine Ol.x (alc zr_api_Edge) ?_
        rintro _ _ ⟨g5, rfl, rfl⟩
        refine Ol.s (stw sz_api_Edge rfl e.one (i := 0) rfl rfl) ?_
        refine Ol.nil ?_
        refine Cd.seq ?_
        refine Cd.region ?_
        refine Ol.p mvf ?_
        refine Ol.p (ldw (cs := e.cells.toArray) ag_api_Edge (i := 0) rfl rfl) ?_
        refine Ol.x (sp_callv (fst := #[treeV (some ⟨gU, 0, none⟩) (some ⟨gP, 0, none⟩) f.terms.length f.terms.length f.terms.length f.terms.length]) (vs := [e.val]) (cap := #[]) (R := Is (.bool (p e))) en_dom_tree_ring (fun M w' hh => by have := dom_ring_ct (w := w') (e := e) (ul := domL f.terms) (pl := plL f.terms) (AU := some ⟨gU, 0, none⟩) (AP := some ⟨gP, 0, none⟩) (cU := f.terms.length) (cP := f.terms.length) (Reads.blk hh (i := 4) rfl (by simp [ints]) (fun j u hu => by simpa using hu)) (Reads.blk hh (i := 3) rfl (by simp [ints]) (fun j u hu => by simpa using hu)) (by rw [plL_len]; have := (closed_le hc).2; omega) (fun _ => Up.of hc hd) her; rw [hd.1, plL_len, ← overF_ups hc, ← hpt] at this; exact this)) ?_
        rintro _ _ ⟨_, rfl, rfl, rfl⟩
        refine Ol.nil ?_
        refine Cd.cond rfl (fun h => ?_) (fun h => ?_)   -- $18
        · have h : p e = true := h
          refine Cd.region ?_
          refine Ol.p mvs ?_
          refine Ol.p (ldw (cs := e.cells.toArray) ag_api_Edge (i := 0) rfl rfl) ?_
          refine Ol.x (bsn [e.val] sl_L_api_Edge zr_api_Edge (by intro v hv; cases hv with | head => rfl | tail _ h => cases h) rfl (by decide) (by decide)) ?_
          rintro _ _ ⟨g21, rfl, rfl⟩
          refine Ol.x (apn (i := 2) (n := m') (m := 1) sl_L_api_Edge zr_api_Edge rfl (by decide) rfl (Src.row (i := 0) rfl rfl) e.one1 (by unfold maxLen; omega) (by omega)) ?_
          rintro _ _ ⟨A2, c2, rfl, rfl⟩
          refine Ol.p ass ?_
          refine Ol.nil ?_
          refine ⟨A2, c2, m' + 1, ?_, ⟨rfl, rfl, rfl, rfl, rfl, trivial⟩, ?_⟩
          · rw [hsn, if_pos h, List.length_append, ← hm]; rfl
          · rw [hsn, if_pos h, edV_app]
            exact .sub (.cons _ (.cons _ (List.Sublist.refl _)))
        have h : p e = false := h
        refine Cd.skip ?_
        refine ⟨A', c', m', ?_, ⟨rfl, rfl, rfl, rfl, rfl, trivial⟩, ?_⟩
        · rw [hsn, if_neg (by rw [h]; simp), List.append_nil]; exact hm
        · rw [hsn, if_neg (by rw [h]; simp), List.append_nil]
          exact .sub (.cons _ (List.Sublist.refl _))
      rintro σ' L' ⟨A', c', m', hm', hs', hkp⟩
      refine Cd.keep hkp ?_
      refine Cd.has hs' ?_
      refine Cd.region ?_
      refine Ol.p addi ?_
      refine Ol.p mvi ?_
      refine Ol.nil ?_
      exact ⟨E.length - (k + 1), by omega, k + 1, A', c', m', rfl, by omega, hm', ⟨rfl, rfl, rfl, rfl, rfl, trivial⟩, rfl⟩
    have hke : k = E.length := by
      have := ge_of_ h
      omega
    refine Cd.exit (id := 0) ?_
    refine Cd.seq ?_
    refine Cd.region ?_
    refine Ol.p mvs ?_
    refine Ol.p ass ?_
    refine Ol.nil ?_
    rw [hke, List.take_length] at hm ⊢
    rw [← hm]
    exact Cd.ret ⟨.slice A' m' c', ret1 rfl rfl, _, .sub (.cons_cons _ (List.nil_sublist _)), A', c', rfl, rfl⟩
end
end Go.Proofs.YtkefmjhagmacfaaGreatDoor

/- The law 11: DomTells, walked. -/
namespace Go.Proofs.YtkefmjhagmacfaaGreatDoor
set_option linter.unusedVariables false
set_option linter.unusedSimpArgs false
open Go Go.RowKit
set_option maxRecDepth 100000
section
theorem law11_same_ct {w : World} {A B : Option Addr} {c d : Nat} {a b : List Ed} (ha : Reads w w.heap.size 3 A a.length (edV a)) (hb : Reads w w.heap.size 3 B b.length (edV b)) (hal : a.length < 2 ^ 40) (hbl : b.length < 2 ^ 40) :
    Ct Tryz.prog 42 #[.slice A a.length c, .slice B b.length d] w (Is (.bool (decide (a = b)))) := by
  refine Ct.mk Tryz.func42 rfl rfl ?_
  refine Cd.seq ?_
  refine Cd.region ?_
  refine Ol.p asb ?_
  refine Ol.nil ?_
  refine Cd.seq ?_
  refine Cd.seq ?_
  refine Cd.region ?_
  refine Ol.p mvs ?_
  refine Ol.p (lens sl_L_api_Edge) ?_
  refine Ol.p mvs ?_
  refine Ol.p (lens sl_L_api_Edge) ?_
  refine Ol.p nei ?_
  refine Ol.nil ?_
  refine Cd.cond rfl (fun h => ?_) (fun h => ?_)
  · have h : (!decide ((a.length : Int) = (b.length : Int))) = true := h
    have hne : a ≠ b := fun e => by rw [e] at h; simp at h
    rw [decide_eq_false hne]
    refine Cd.seq ?_
    refine Cd.region ?_
    refine Ol.p asb ?_
    refine Ol.nil ?_
    exact Cd.ret ⟨.bool false, ret1 rfl rfl, [], .nil, rfl, rfl⟩
  have hl : a.length = b.length := by
    have h : (!decide ((a.length : Int) = (b.length : Int))) = false := h
    have : (a.length : Int) = (b.length : Int) := by simpa using h
    omega
  refine Cd.skip ?_
  refine Cd.seq ?_
  refine Cd.seq ?_
  refine Cd.region ?_
  refine Ol.p asi ?_
  refine Ol.nil ?_
  refine Cd.block ?_   -- 0
  refine Cd.loop (fun m σ L => ∃ k, m = a.length - k ∧ k ≤ a.length ∧ a.take k = b.take k ∧ Has σ [(0, .slice A a.length c), (1, .slice B b.length d), (5, .int .i64 k)] ∧ [] = L) (n := a.length) ⟨0, rfl, Nat.zero_le _, by simp, ⟨rfl, rfl, rfl, trivial⟩, rfl⟩ ?_
  rintro _ σ L ⟨k, rfl, hk, hkk, hs, rfl⟩
  refine Cd.has hs ?_
  clear hs
  refine Cd.seq ?_
  refine Cd.seq ?_
  refine Cd.region ?_
  refine Ol.p mvi ?_
  refine Ol.p mvs ?_
  refine Ol.p (lens sl_L_api_Edge) ?_
  refine Ol.p lsi ?_
  refine Ol.nil ?_
  refine Cd.cond rfl (fun h => ?_) (fun h => ?_)
  · have hlt := lt_of h
    obtain ⟨x, hx⟩ : ∃ x, a[k]? = some x := ⟨_, List.getElem?_eq_getElem hlt⟩
    obtain ⟨y, hy⟩ : ∃ y, b[k]? = some y := ⟨_, List.getElem?_eq_getElem (by omega)⟩
    refine Cd.skip ?_
    refine Cd.seq ?_
    refine Cd.block ?_
    refine Cd.seq ?_
    refine Cd.draw mixed 9 (fun _ => none) (fun _ => []) (by kernel_rfl) (fun _ _ h => by cases h) (fun u hu => ?_)
    refine Wk.p mvs ?_
    refine Wk.p mvi ?_
    refine Wk.p (ixn (ix := k) sl_L_api_Edge (Som.slc ha (by omega))) ?_
    refine Wk.p (lds (es := x.cells) ag_api_Edge ha x.len (fun j u hu => edV_at hx hu)) ?_
    refine Wk.p mvs ?_
    refine Wk.p mvi ?_
    refine Wk.p (ixn (ix := k) sl_L_api_Edge (Som.slc hb (by omega))) ?_
    refine Wk.p (lds (es := y.cells) ag_api_Edge hb y.len (fun j u hu => edV_at hy hu)) ?_
    refine Wk.p (nes (n := 3) (a := [x.src, x.arm, x.to]) (b := [y.src, y.arm, y.to]) st_api_Edge rfl rfl) ?_
    refine Wk.nil ?_
    refine Ol.nil ?_
    rw [ed_ints]
    refine Cd.cond rfl (fun h => ?_) (fun h => ?_)
    · have h : (!decide (x = y)) = true := h
      have hxy : x ≠ y := by simpa using h
      have hne : a ≠ b := fun e => by
        rw [e, hy] at hx
        exact hxy (Option.some.inj hx).symm
      rw [decide_eq_false hne]
      refine Cd.seq ?_
      refine Cd.region ?_
      refine Ol.p asb ?_
      refine Ol.nil ?_
      exact Cd.ret ⟨.bool false, ret1 rfl rfl, [], .nil, rfl, rfl⟩
    have h : (!decide (x = y)) = false := h
    have hxy : x = y := by simpa using h
    refine Cd.skip ?_
    refine Cd.region ?_
    refine Ol.p mvi ?_
    refine Ol.p addi ?_
    refine Ol.p asi ?_
    refine Ol.nil ?_
    exact ⟨a.length - (k + 1), by omega, k + 1, rfl, by omega, by rw [take_snoc_ hx, take_snoc_ hy, hkk, hxy], ⟨rfl, rfl, rfl, trivial⟩, rfl⟩
  have hke : k = a.length := by
    have := ge_of_ h
    omega
  have hab : a = b := by
    rw [hke, List.take_length, hl, List.take_length] at hkk
    exact hkk
  rw [decide_eq_true hab]
  refine Cd.exit (id := 0) ?_
  refine Cd.seq ?_
  refine Cd.region ?_
  refine Ol.p asb ?_
  refine Ol.nil ?_
  exact Cd.ret ⟨.bool true, ret1 rfl rfl, [], .nil, rfl, rfl⟩
theorem law11_same_self {w : World} {A B : Option Addr} {c d : Nat} {a : List Ed} (ha : Reads w w.heap.size 3 A a.length (edV a)) (hb : Reads w w.heap.size 3 B a.length (edV a)) (hal : a.length ≤ 400) :
    Ct Tryz.prog 42 #[.slice A a.length c, .slice B a.length d] w (Is (.bool true)) := by
  have := law11_same_ct (c := c) (d := d) ha hb (by omega) (by omega)
  rw [decide_eq_true rfl] at this
  exact this
end
section
theorem dom_Of_ct3 {w : World} {f : RFun} {ol : List Int} (ho : ol = domO f.terms) (hf : FunAt w w.heap.size f) (hfit : Fit f) : Ct Tryz.prog 34 #[f.val] w (PartO ol) := by
  subst ho
  refine CallsIn.mono (dom_Of_ct hf hfit) fun e w' ⟨v, he, L, hh, hR⟩ => ⟨v, he, ?_⟩
  rcases hR with ⟨hc, rfl, rfl⟩ | ⟨hc, hd, g, rfl, rfl⟩
  · have e0 : domO f.terms = [] := by unfold domO; rw [hc]; rfl
    rw [e0]
    exact ⟨[row (.slice none 0 0) 3 1 0 []], Hp.nr (M := []) (L := []) hh, none, 0, _, rfl, rfl, fun k m => .inl ⟨rfl, rfl, rfl, rfl⟩, fun w0 B => RdS.nil⟩
  · have e0 : domO f.terms = domL f.terms := by unfold domO; rw [hc]; rfl
    have hl := hd.1
    rw [e0, ← hl]
    exact ⟨_, hh, some ⟨g, 0, none⟩, _, _, rfl, rfl, fun q m => .inr ⟨g, 0, _, rfl, rfl, Nat.le_refl _, by simp [ints], fun j hj => by omega⟩, fun w0 B => RdS.blk (i := 0) rfl (by simp [ints]) (fun j u hu => by simpa using hu)⟩
theorem kit_Apart2 {w0 : World} {B cL : Nat} {AL : Option Addr} {x y : Li} {R1 R2 : Res} (hx : ∀ k, OwnP k 0 x R1) (hy : ∀ k, OwnP k 0 y R2) (hs : x.n < 2 ^ 39 ∧ y.n < 2 ^ 39) :
    Cm Tryz.prog 29 #[.slice AL 2 cL] w0 B [row (.slice AL 2 cL) 22 1 2 [.slice x.A x.n x.c, .slice y.A y.n y.c], R1, R2] (Is (.bool true)) := fun M w hh => by
  have key : ∀ k, k < 2 → k = 0 ∨ k = 1 := fun k hk => by omega
  refine kit_ApartRes_cm (N := 2) (it := fun k => if k = 0 then x else y) (R0 := fun k => if k = 0 then R1 else R2) (by omega) ?_ ?_ M w hh
  · intro k hk
    rcases key k hk with rfl | rfl
    · exact hx 0
    · exact hy 1
  · intro k hk
    rcases key k hk with rfl | rfl
    · exact hs.1
    · exact hs.2
set_option maxHeartbeats 8000000 in
theorem law11_DomTells_ct {w : World} {f : RFun} {a b : Int} (hT : Tabs w w.heap.size) (hf : FunAt w w.heap.size f) (hfit : Fit f) (ha : -9223372036854775808 ≤ a ∧ a ≤ 9223372036854775807) (hbb : -9223372036854775808 ≤ b ∧ b ≤ 9223372036854775807) :
    Ct Tryz.prog 5 #[f.val, .int .i64 a, .int .i64 b] w (Is (.bool true)) := by
  refine Ct.mk Tryz.func5 rfl rfl ?_
  refine Cd.seq ?_
  refine Cd.region ?_
  refine Ol.x bxg ?_
  rintro _ _ ⟨g3, rfl, rfl⟩
  refine Ol.p asb ?_
  refine Ol.nil ?_
  refine Cd.seq ?_
  refine Cd.seq ?_
  refine Cd.region ?_
  refine Ol.p (ldw (cs := f.cells.toArray) ag_api_Func (i := 0) rfl rfl) ?_
  refine Ol.x (sp_call (vs := [f.val, .int .i64 120]) en_kit_FuncOf (fun M w' hh => kit_FuncOf_ct (hf.now hh) hfit (most := 120) (by decide))) ?_
  rintro _ _ ⟨_, rfl, N, rfl, hN1, hN2, rfl⟩
  refine Ol.p gti ?_
  refine Ol.nil ?_
  refine Cd.cond rfl (fun h => ?_) (fun h => ?_)
  · refine Cd.seq ?_
    refine Cd.region ?_
    refine Ol.s (cl en_law11_awake (fun M w' hh => law11_awake_ct)) ?_
    refine Ol.p asb ?_
    refine Ol.nil ?_
    exact Cd.ret ⟨.bool true, ret1 rfl rfl, [], Keep.nil, rfl, rfl⟩
  obtain hsz : f.sz ≤ 500 := by
    have h : decide ((120 : Int) < (N : Int)) = false := h
    have := of_decide_eq_false h
    have h2 := hN1 (by omega)
    omega
  clear h hN1 hN2
  have hbi : BlksIn w w.heap.size f.bA f.blocks := BlksIn.of_siz hf hsz (by omega)
  obtain ⟨hbl, hpl⟩ := siz_blen hsz
  have h40 : ∀ b ∈ f.blocks, ∀ i ∈ b.ins, i.args.length < 2 ^ 40 := fun b hb i hi => by
    have := siz_alen hsz b hb i hi
    omega
  refine Cd.skip ?_
  refine Cd.seq ?_
  refine Cd.region ?_
  refine Ol.p (ldw (cs := f.cells.toArray) ag_api_Func (i := 0) rfl rfl) ?_
  refine Ol.x (sp_call (vs := [f.val]) en_kit_LentFunc (fun M w' hh => kit_LentFunc_ct (hf.now hh) (by omega) (hbi.now hh) h40)) ?_
  rintro _ _ ⟨X, rfl, g, hb, rfl, hX⟩
  have hfc : FitC g := FitC.same hfit.c hb
  refine Ol.keep (L' := blk g3 (.cells f.cells.toArray 25) :: funLent g) ⟨[], by rw [List.append_nil]; exact List.perm_append_comm.trans (hX.cons _)⟩ ?_
  refine Ol.x (alc zr_api_Func) ?_
  rintro _ _ ⟨g7, rfl, rfl⟩
  refine Ol.s (stw (vs := g.cells.toArray) sz_api_Func rfl (by intro u hu; simp [RFun.cells] at hu; rcases hu with rfl | rfl <;> rfl) (i := 0) rfl rfl) ?_
  refine Ol.nil ?_
  obtain ⟨LB, hLB⟩ : ∃ LB, LB = blk g7 (.cells g.cells.toArray 25) :: blk g3 (.cells f.cells.toArray 25) :: funLent g := ⟨_, rfl⟩
  refine Cd.keep (L' := LB) (by rw [hLB]; exact .all) ?_
  have h7 : LB[0]? = some (blk g7 (.cells g.cells.toArray 25)) := by rw [hLB]; rfl
  have h3 : LB[1]? = some (blk g3 (.cells f.cells.toArray 25)) := by rw [hLB]; rfl
  have hQ : ∀ {M L : List Res} {w' : World}, (∀ r ∈ LB, r ∈ L) → Hp w w.heap.size (M ++ L) w' → LentAt w' w'.heap.size g := fun {M L w'} hs hh =>
    LentAt.own hh (fun r hr => hs r (by rw [hLB]; exact List.mem_cons_of_mem _ (List.mem_cons_of_mem _ hr)))
  have hts := siz_terms hb
  have hgl : g.blocks.length = f.blocks.length := by
    have := congrArg List.length hts
    simpa [RFun.terms] using this
  -- what each call tells
  obtain ⟨ol, hol⟩ : ∃ ol, ol = domO f.terms := ⟨_, rfl⟩
  obtain ⟨ov, hov⟩ : ∃ ov, ov = overF f.terms a b := ⟨_, rfl⟩
  obtain ⟨bl, hbl2⟩ : ∃ bl : List Int, bl = natL (belowN f.terms a f.blocks.length) := ⟨_, rfl⟩
  obtain ⟨bo, hbo⟩ : ∃ bo, bo = bothF f.terms a b := ⟨_, rfl⟩
  obtain ⟨E, hE⟩ : ∃ E, E = backE f.terms := ⟨_, rfl⟩
  have l1 : ol.length < 2 ^ 30 := by
    rw [hol]
    have := domO_len f.terms
    have e : f.terms.length = f.blocks.length := by simp [RFun.terms]
    omega
  have l2 : bl.length < 2 ^ 30 := by
    rw [hbl2, natL_len]
    have := belowN_le f.terms a f.blocks.length
    omega
  have l3 : E.length ≤ 400 := by
    rw [hE]
    unfold backE
    exact Nat.le_trans (List.length_filter_le _ _) (someE_len_le _ _)
  have k1 : ∀ w', FunAt w' w'.heap.size g → Fit g → Ct Tryz.prog 34 #[g.val] w' (PartO ol) := fun w' a1 a2 => dom_Of_ct3 (by rw [hts]; exact hol) a1 a2
  have k2 : ∀ w', FunAt w' w'.heap.size g → Fit g → Ct Tryz.prog 36 #[g.val, .int .i64 a, .int .i64 b] w' (Is (.bool ov)) := fun w' a1 a2 => by rw [hov, ← hts]; exact dom_Over_ct a1 a2 hbb
  have k3 : ∀ w', Tabs w' w'.heap.size → FunAt w' w'.heap.size g → Fit g → Ct Tryz.prog 38 #[g.val, .int .i64 a] w' (NewL 3 1 bl.length (ints bl)) := fun w' a0 a1 a2 => by rw [hbl2, natL_len, natL_ints, ← hts, ← hgl]; exact dom_Below_ct a0 a1 a2 (by omega)
  have k4 : ∀ w', FunAt w' w'.heap.size g → Fit g → Ct Tryz.prog 40 #[g.val, .int .i64 a, .int .i64 b] w' (Is (.int .i64 bo)) := fun w' a1 a2 => by rw [hbo, ← hts]; exact dom_Both_ct a1 a2 ha hbb
  have k5 : ∀ w', FunAt w' w'.heap.size g → Fit g → Ct Tryz.prog 43 #[g.val] w' (NewL 58 3 E.length (edV E)) := fun w' a1 a2 => by rw [hE, ← hts]; exact dom_Back_ct a1 a2
  have r1 : ∀ w', FunAt w' w'.heap.size f → Ct Tryz.prog 35 #[f.val] w' (NewL 3 1 ol.length (ints ol)) := fun w' a1 => by rw [hol]; exact ref11_Of_ct a1 hfit (by omega)
  have r2 : ∀ w', FunAt w' w'.heap.size f → Ct Tryz.prog 37 #[f.val, .int .i64 a, .int .i64 b] w' (Is (.bool ov)) := fun w' a1 => by rw [hov]; exact ref11_Over_ct a1 hfit
  have r3 : ∀ w', FunAt w' w'.heap.size f → Ct Tryz.prog 39 #[f.val, .int .i64 a] w' (NewL 3 1 bl.length (ints bl)) := fun w' a1 => by rw [hbl2, natL_len, natL_ints]; exact ref11_Below_ct a1 hfit (by omega)
  have r4 : ∀ w', FunAt w' w'.heap.size f → Ct Tryz.prog 41 #[f.val, .int .i64 a, .int .i64 b] w' (Is (.int .i64 bo)) := fun w' a1 => by rw [hbo]; exact ref11_Both_ct a1 hfit (by omega)
  have r5 : ∀ w', FunAt w' w'.heap.size f → Ct Tryz.prog 44 #[f.val] w' (NewL 58 3 E.length (edV E)) := fun w' a1 => by rw [hE]; exact ref11_Back_ct a1 hfit (by omega)
  have q15 : decide (ov = ov) = true := by simp
  have q35 : decide (bo = bo) = true := by simp
  have hg1 : ∀ {M : List Res} {w' : World}, Hp w w.heap.size (M ++ LB) w' → FunAt w' w'.heap.size g ∧ Fit g := fun hh => ⟨(hQ (fun r h => h) hh).fun_, (hQ (fun r h => h) hh).fit hfc⟩
  clear hol hov hbl2 hbo hE
  refine Cd.seq ?_
  refine Cd.draw mixed 4 (fun opNo => match opNo with | 1 => some (PartO ol) | 3 => some (PartO ol) | _ => none) (fun _ => []) (by kernel_rfl) (by intro q V h; split at h <;> cases h; exact partO_in ol; exact partO_in ol) (fun u hu => ?_)
  refine Wk.p (ldw (cs := g.cells.toArray) ag_api_Func (i := 0) h7 rfl) ?_
  refine Wk.x (V := PartO ol) hu (sp_call (vs := [g.val]) en_dom_Of (fun M w' hh => k1 w' (hg1 hh).1 (hg1 hh).2)) ?_
  rintro _ _ hu1 ⟨A18, c18, R18, rfl, rfl, ho1, hp1⟩
  refine Wk.p (ldw (cs := g.cells.toArray) ag_api_Func (i := 0) h7 rfl) ?_
  refine Wk.x (V := PartO ol) hu (sp_call (vs := [g.val]) en_dom_Of (fun M w' hh => k1 w' (hg1 hh).1 (hg1 hh).2)) ?_
  rintro _ _ hu3 ⟨A20, c20, R20, rfl, rfl, ho2, hp2⟩
  refine Wk.nil ?_
  rw [needs_cons hu3, needs_cons hu1, needs_none]
  refine Ol.p ass ?_
  refine Ol.p ass ?_
  refine Ol.nil ?_
  show Cd _ _ _ _ (R20 :: R18 :: LB)
  have hin2 : ∀ r ∈ LB, r ∈ R20 :: R18 :: LB := fun r h => List.mem_cons_of_mem _ (List.mem_cons_of_mem _ h)
  have hg : ∀ {M : List Res} {w' : World}, Hp w w.heap.size (M ++ (R20 :: R18 :: LB)) w' → FunAt w' w'.heap.size g ∧ Fit g := fun hh => ⟨(hQ hin2 hh).fun_, (hQ hin2 hh).fit hfc⟩
  have h18 : ∀ {M : List Res} {w' : World} {r : Res}, Hp w w.heap.size (M ++ (r :: R20 :: R18 :: LB)) w' → Reads w' w'.heap.size 1 A18 ol.length (ints ol) := fun hh => (hp1 w w.heap.size).keep (.sub (.cons _ (.cons _ (.cons_cons _ (List.nil_sublist _))))) _ _ hh
  refine Cd.mid (fun σ' L' => Has σ' [(3, .pointer (some ⟨g3, 0, none⟩)), (7, .pointer (some ⟨g7, 0, none⟩)), (8, .slice A18 ol.length c18), (9, .slice A20 ol.length c20), (10, .bool true)] ∧ Keep L' (R20 :: R18 :: LB)) ?_ ?_
  · skip
    refine Cd.draw mixed 43 (fun opNo => match opNo with | 2 => some (NewL 3 1 ol.length (ints ol)) | 3 => some (Is (.bool true)) | 8 => some (Is (.bool ov)) | 12 => some (Is (.bool ov)) | 18 => some (NewL 3 1 bl.length (ints bl)) | 21 => some (NewL 3 1 bl.length (ints bl)) | 22 => some (Is (.bool true)) | 28 => some (Is (.int .i64 bo)) | 32 => some (Is (.int .i64 bo)) | 37 => some (NewL 58 3 E.length (edV E)) | 39 => some (NewL 58 3 E.length (edV E)) | 40 => some (Is (.bool true)) | _ => none) (fun opNo => match opNo with | 3 => [2] | 22 => [18, 21] | 40 => [37, 39] | _ => []) (by kernel_rfl) (by intro q V h; split at h <;> cases h; exact ⟨_, _, none, 0, rfl, rfl⟩; exact ⟨_, [], rfl, rfl⟩; exact ⟨_, [], rfl, rfl⟩; exact ⟨_, [], rfl, rfl⟩; exact ⟨_, _, none, 0, rfl, rfl⟩; exact ⟨_, _, none, 0, rfl, rfl⟩; exact ⟨_, [], rfl, rfl⟩; exact ⟨_, [], rfl, rfl⟩; exact ⟨_, [], rfl, rfl⟩; exact ⟨_, _, none, 0, rfl, rfl⟩; exact ⟨_, _, none, 0, rfl, rfl⟩; exact ⟨_, [], rfl, rfl⟩) (fun u hu => ?_)
    refine Wk.p mvs ?_
    refine Wk.p (ldw (cs := f.cells.toArray) ag_api_Func (i := 3) h3 rfl) ?_
    refine Wk.x (V := NewL 3 1 ol.length (ints ol)) hu (sp_call (vs := [f.val]) en_ref11_Of (fun M w' hh => r1 w' (hf.now hh))) ?_
    rintro _ _ hu2 ⟨A23, c23, rfl, rfl⟩
    refine Wk.xn (V := Is (.bool true)) hu (l := [2]) rfl (by simp) (by rw [needs_cons hu2, needs_none]; exact (sp_call en_kit_SameInts (fun M w' hh => kit_SameInts_self (h18 hh) (Reads.row hh (i := 0) rfl) (by omega)))) ?_
    rintro _ _ hu3 ⟨rfl, rfl⟩
    refine Wk.p mvb ?_
    refine Wk.gp rfl (ldw (cs := g.cells.toArray) ag_api_Func (i := 2) h7 rfl) ?_
    refine Wk.gp rfl mvi ?_
    refine Wk.gp rfl mvi ?_
    refine Wk.gx (V := Is (.bool ov)) hu rfl (sp_call (vs := [g.val, .int .i64 a, .int .i64 b]) en_dom_Over (fun M w' hh => k2 w' (hg hh).1 (hg hh).2)) ?_
    rintro _ _ hu8 ⟨rfl, rfl⟩
    refine Wk.gp rfl (ldw (cs := f.cells.toArray) ag_api_Func (i := 3) h3 rfl) ?_
    refine Wk.gp rfl mvi ?_
    refine Wk.gp rfl mvi ?_
    refine Wk.gx (V := Is (.bool ov)) hu rfl (sp_call (vs := [f.val, .int .i64 a, .int .i64 b]) en_ref11_Over (fun M w' hh => r2 w' (hf.now hh))) ?_
    rintro _ _ hu12 ⟨rfl, rfl⟩
    refine Wk.gp rfl (eqb bo_bool) ?_
    refine Wk.p (pkTb rfl) ?_
    refine Wk.p mvb ?_
    refine Wk.gp q15 (ldw (cs := g.cells.toArray) ag_api_Func (i := 2) h7 rfl) ?_
    refine Wk.gp q15 mvi ?_
    refine Wk.gx (V := NewL 3 1 bl.length (ints bl)) hu q15 (sp_call (vs := [g.val, .int .i64 a]) en_dom_Below (fun M w' hh => k3 w' (hT.now hh) (hg hh).1 (hg hh).2)) ?_
    rintro _ _ hu18 ⟨A39, c39, rfl, rfl⟩
    refine Wk.gp q15 (ldw (cs := f.cells.toArray) ag_api_Func (i := 3) h3 rfl) ?_
    refine Wk.gp q15 mvi ?_
    refine Wk.gx (V := NewL 3 1 bl.length (ints bl)) hu q15 (sp_call (vs := [f.val, .int .i64 a]) en_ref11_Below (fun M w' hh => r3 w' (hf.now hh))) ?_
    rintro _ _ hu21 ⟨A42, c42, rfl, rfl⟩
    refine Wk.gxn (V := Is (.bool true)) hu q15 (l := [18, 21]) rfl (by simp) (by rw [needs_cons hu18, needs_cons hu21, needs_none]; exact (sp_call en_kit_SameInts (fun M w' hh => kit_SameInts_self (Reads.row hh (i := 0) rfl) (Reads.row hh (i := 1) rfl) (by omega)))) ?_
    rintro _ _ hu22 ⟨rfl, rfl⟩
    refine Wk.p (pkTb q15) ?_
    refine Wk.p mvb ?_
    refine Wk.gp rfl (ldw (cs := g.cells.toArray) ag_api_Func (i := 2) h7 rfl) ?_
    refine Wk.gp rfl mvi ?_
    refine Wk.gp rfl mvi ?_
    refine Wk.gx (V := Is (.int .i64 bo)) hu rfl (sp_call (vs := [g.val, .int .i64 a, .int .i64 b]) en_dom_Both (fun M w' hh => k4 w' (hg hh).1 (hg hh).2)) ?_
    rintro _ _ hu28 ⟨rfl, rfl⟩
    refine Wk.gp rfl (ldw (cs := f.cells.toArray) ag_api_Func (i := 3) h3 rfl) ?_
    refine Wk.gp rfl mvi ?_
    refine Wk.gp rfl mvi ?_
    refine Wk.gx (V := Is (.int .i64 bo)) hu rfl (sp_call (vs := [f.val, .int .i64 a, .int .i64 b]) en_ref11_Both (fun M w' hh => r4 w' (hf.now hh))) ?_
    rintro _ _ hu32 ⟨rfl, rfl⟩
    refine Wk.gp rfl eqi ?_
    refine Wk.p (pkTb rfl) ?_
    refine Wk.p mvb ?_
    refine Wk.gp q35 (ldw (cs := g.cells.toArray) ag_api_Func (i := 2) h7 rfl) ?_
    refine Wk.gx (V := NewL 58 3 E.length (edV E)) hu q35 (sp_call (vs := [g.val]) en_dom_Back (fun M w' hh => k5 w' (hg hh).1 (hg hh).2)) ?_
    rintro _ _ hu37 ⟨A58, c58, rfl, rfl⟩
    refine Wk.gp q35 (ldw (cs := f.cells.toArray) ag_api_Func (i := 3) h3 rfl) ?_
    refine Wk.gx (V := NewL 58 3 E.length (edV E)) hu q35 (sp_call (vs := [f.val]) en_ref11_Back (fun M w' hh => r5 w' (hf.now hh))) ?_
    rintro _ _ hu39 ⟨A60, c60, rfl, rfl⟩
    refine Wk.gxn (V := Is (.bool true)) hu q35 (l := [37, 39]) rfl (by simp) (by rw [needs_cons hu37, needs_cons hu39, needs_none]; exact (sp_call en_law11_same (fun M w' hh => law11_same_self (Reads.row hh (i := 0) rfl) (Reads.row hh (i := 1) rfl) l3))) ?_
    rintro _ _ hu40 ⟨rfl, rfl⟩
    refine Wk.p (pkTb q35) ?_
    refine Wk.p asb ?_
    refine Wk.nil ?_
    rw [needs_cons hu40, needs_cons hu39, needs_cons hu37, needs_cons hu32, needs_cons hu28, needs_cons hu22, needs_cons hu21, needs_cons hu18, needs_cons hu12, needs_cons hu8, needs_cons hu3, needs_cons hu2, needs_none]
    refine Ol.nil ?_
    exact ⟨⟨rfl, rfl, rfl, rfl, rfl, trivial⟩, .sub (.cons _ (.cons _ (.cons _ (.cons _ (.cons _ (List.Sublist.refl _))))))⟩
  rintro σ' L' ⟨hs', hkp⟩
  refine Cd.keep hkp ?_
  refine Cd.has hs' ?_
  clear hs' hkp k1 k2 k3 k4 k5 r1 r2 r3 r4 r5
  refine Cd.seq ?_
  refine Cd.region ?_
  refine Ol.p mvb ?_
  refine Ol.p mvb ?_
  refine Ol.gp rfl mvs ?_
  refine Ol.gp rfl mvs ?_
  refine Ol.gx rfl (bsv [.slice A18 ol.length c18, .slice A20 ol.length c20] sl_L_L_int zr_L_int (by simp [Value.cells])) ?_
  rintro _ _ ⟨g67, rfl, rfl⟩
  refine Ol.gx rfl (sp_callm (vs := [.slice (some ⟨g67, 0, none⟩) 2 2]) (Lin := [row (.slice (some ⟨g67, 0, none⟩) 2 2) 22 1 2 [.slice A18 ol.length c18, .slice A20 ol.length c20], R18, R20]) (L2 := LB) en_kit_ApartInts (perm_count fun _ x => by simp only [List.count_append, List.count_cons, List.count_nil, List.cons_append, List.nil_append]; omega) (kit_Apart2 (x := ⟨A18, ol.length, ol.length, c18⟩) (y := ⟨A20, ol.length, ol.length, c20⟩) (fun k => ho1 k _) (fun k => ho2 k _) ⟨by show ol.length < 2 ^ 39; omega, by show ol.length < 2 ^ 39; omega⟩)) ?_
  rintro _ _ ⟨_, rfl, rfl, rfl⟩
  refine Ol.p (pkTb rfl) ?_
  refine Ol.p mvb ?_
  refine Ol.gp rfl (ldw (cs := g.cells.toArray) ag_api_Func (i := 0) h7 rfl) ?_
  refine Ol.gp rfl (ldw (cs := f.cells.toArray) ag_api_Func (i := 1) h3 rfl) ?_
  refine Ol.gs rfl (cl (v := .bool true) (vs := [g.val, f.val]) en_kit_KeptFunc (fun M w' hh => kit_KeptFunc_ct hb (hQ (fun r h => h) hh) (hf.now hh) hfc hfit.c (by omega) (hbi.now hh) h40)) ?_
  refine Ol.p (pkTb rfl) ?_
  refine Ol.p mvb ?_
  refine Ol.gs rfl (cl (v := .bool true) en_law11_awake (fun M w' hh => law11_awake_ct)) ?_
  refine Ol.p (pkTb rfl) ?_
  refine Ol.p asb ?_
  refine Ol.nil ?_
  exact Cd.ret ⟨.bool true, ret1 rfl rfl, [], Keep.nil, rfl, rfl⟩
end
end Go.Proofs.YtkefmjhagmacfaaGreatDoor

/- The law 11: DomGraphs, walked. -/
namespace Go.Proofs.YtkefmjhagmacfaaGreatDoor
set_option linter.unusedVariables false
set_option linter.unusedSimpArgs false
open Go Go.RowKit
set_option maxRecDepth 100000
section
theorem dtells_ct {w : World} {bA : Option Addr} {nb bC : Nat} {tl : List Tm} {a b : Int} (hT : Tabs w w.heap.size) (hb : tl.length = nb) (hok : ∀ t ∈ tl, okG t) (hcap : nb ≤ bC) (hl : nb < 2 ^ 40) (h2 : Reads w w.heap.size 5 bA nb ((tl.map BN).flatMap RBlk.cells))
    (ha : -9223372036854775808 ≤ a ∧ a ≤ 9223372036854775807) (hbb : -9223372036854775808 ≤ b ∧ b ≤ 9223372036854775807) :
    Ct Tryz.prog 5 #[.agg #[.slice none 0 0, .slice bA nb bC], .int .i64 a, .int .i64 b] w (Is (.bool true)) := by
  subst hb
  have h := law11_DomTells_ct (f := GF bA bC tl) (a := a) (b := b) hT (GF_at h2) (GF_fit hok hcap hl) ha hbb
  have e : (GF bA bC tl).val = .agg #[.slice none 0 0, .slice bA tl.length bC] := by
    show Value.agg #[.slice none 0 0, .slice bA (tl.map BN).length bC] = _
    rw [List.length_map]
  rw [e] at h
  exact h
theorem okG_br {a b : Int} (h : (-9223372036854775808 ≤ a ∧ a ≤ 9223372036854775807) ∧ (-9223372036854775808 ≤ b ∧ b ≤ 9223372036854775807)) : okG ⟨2, 1, a, b⟩ := okG_mk ⟨by omega, by omega, h.1, h.2⟩
theorem okG_ju {a : Int} (h : -9223372036854775808 ≤ a ∧ a ≤ 9223372036854775807) : okG ⟨1, 0, a, 0⟩ := okG_mk ⟨by omega, by omega, h, by omega⟩
def G4 (a b c d e h : Int) : List Tm := [⟨2, 1, a, b⟩, ⟨2, 1, c, d⟩, ⟨1, 0, e, 0⟩, ⟨1, 0, h, 0⟩]
theorem G4_ok {a b c d e h : Int} (ha : -9223372036854775808 ≤ a ∧ a ≤ 9223372036854775807) (hb : -9223372036854775808 ≤ b ∧ b ≤ 9223372036854775807) (hc : -9223372036854775808 ≤ c ∧ c ≤ 9223372036854775807) (hd : -9223372036854775808 ≤ d ∧ d ≤ 9223372036854775807) (he : -9223372036854775808 ≤ e ∧ e ≤ 9223372036854775807) (hh : -9223372036854775808 ≤ h ∧ h ≤ 9223372036854775807) : ∀ t ∈ G4 a b c d e h, okG t := fun t ht => by
  unfold G4 at ht
  simp only [List.mem_cons, List.not_mem_nil, or_false] at ht
  rcases ht with rfl | rfl | rfl | rfl
  · exact okG_br ⟨ha, hb⟩
  · exact okG_br ⟨hc, hd⟩
  · exact okG_ju he
  · exact okG_ju hh
set_option maxHeartbeats 4000000 in
theorem law11_DomGraphs_ct {w : World} (hT : Tabs w w.heap.size) : Ct Tryz.prog 6 #[] w (Is (.bool true)) := by
  refine Ct.mk Tryz.func6 rfl rfl ?_
  refine Cd.seq ?_
  refine Cd.region ?_
  refine Ol.p asb ?_
  refine Ol.nil ?_
  refine Cd.seq ?_
  refine Cd.seq ?_
  refine Cd.region ?_
  refine Ol.p asi ?_
  refine Ol.nil ?_
  refine Cd.block ?_   -- 0
  refine Cd.loop (fun m σ L => ∃ n : Nat, m = 4096 - n ∧ n ≤ 4096 ∧ Has σ [(1, .int .i64 n)] ∧ [] = L) (n := 4096) ⟨0, rfl, Nat.zero_le _, ⟨rfl, trivial⟩, rfl⟩ ?_
  rintro _ σ L ⟨n, rfl, hn, hs, rfl⟩
  refine Cd.has hs ?_
  clear hs
  refine Cd.seq ?_
  refine Cd.seq ?_
  refine Cd.region ?_
  refine Ol.p mvi ?_
  refine Ol.p lsi ?_
  refine Ol.nil ?_
  refine Cd.cond rfl (fun h => ?_) (fun h => ?_)   -- $4
  · have hnl : n < 4096 := by
      have h : decide ((n : Int) < 4096) = true := h
      have := of_decide_eq_true h
      omega
    have q4 : IntKind.i64.wrap ((n : Int).tdiv 4) = ((n / 4 : Nat) : Int) := quog (n := n) (k := 4) (by omega)
    have q16 : IntKind.i64.wrap ((n : Int).tdiv 16) = ((n / 16 : Nat) : Int) := quog (n := n) (k := 16) (by omega)
    have q64 : IntKind.i64.wrap ((n : Int).tdiv 64) = ((n / 64 : Nat) : Int) := quog (n := n) (k := 64) (by omega)
    have q256 : IntKind.i64.wrap ((n : Int).tdiv 256) = ((n / 256 : Nat) : Int) := quog (n := n) (k := 256) (by omega)
    have q1024 : IntKind.i64.wrap ((n : Int).tdiv 1024) = ((n / 1024 : Nat) : Int) := quog (n := n) (k := 1024) (by omega)
    have q5 : IntKind.i64.wrap ((n : Int).tdiv 5) = ((n / 5 : Nat) : Int) := quog (n := n) (k := 5) (by omega)
    have t5 : (n : Int).tmod 5 = ((n % 5 : Nat) : Int) := rfl
    refine Cd.skip ?_
    refine Cd.seq ?_
    refine Cd.block ?_   -- 1
    refine Cd.seq ?_
    refine Cd.region ?_
    refine Ol.p mvi ?_
    refine Ol.p remi ?_
    refine Ol.p mvi ?_
    refine Ol.p quoi ?_
    refine Ol.p remi ?_
    refine Ol.s (cl (v := (BN ⟨2, 1, ((n : Int).tmod 4), ((IntKind.i64.wrap ((n : Int).tdiv 4)).tmod 4)⟩).val) en_law11_branch (fun M w' hh => law11_branch_ct)) ?_
    refine Ol.p mvi ?_
    refine Ol.p quoi ?_
    refine Ol.p remi ?_
    refine Ol.p mvi ?_
    refine Ol.p quoi ?_
    refine Ol.p remi ?_
    refine Ol.s (cl (v := (BN ⟨2, 1, ((IntKind.i64.wrap ((n : Int).tdiv 16)).tmod 4), ((IntKind.i64.wrap ((n : Int).tdiv 64)).tmod 4)⟩).val) en_law11_branch (fun M w' hh => law11_branch_ct)) ?_
    refine Ol.p mvi ?_
    refine Ol.p quoi ?_
    refine Ol.p remi ?_
    refine Ol.s (cl (v := (BN ⟨1, 0, ((IntKind.i64.wrap ((n : Int).tdiv 256)).tmod 4), 0⟩).val) en_law11_jump (fun M w' hh => law11_jump_ct)) ?_
    refine Ol.p mvi ?_
    refine Ol.p quoi ?_
    refine Ol.s (cl (v := (BN ⟨1, 0, (IntKind.i64.wrap ((n : Int).tdiv 1024)), 0⟩).val) en_law11_jump (fun M w' hh => law11_jump_ct)) ?_
    refine Ol.x (bsn [(BN ⟨2, 1, ((n : Int).tmod 4), ((IntKind.i64.wrap ((n : Int).tdiv 4)).tmod 4)⟩).val, (BN ⟨2, 1, ((IntKind.i64.wrap ((n : Int).tdiv 16)).tmod 4), ((IntKind.i64.wrap ((n : Int).tdiv 64)).tmod 4)⟩).val, (BN ⟨1, 0, ((IntKind.i64.wrap ((n : Int).tdiv 256)).tmod 4), 0⟩).val, (BN ⟨1, 0, (IntKind.i64.wrap ((n : Int).tdiv 1024)), 0⟩).val] sl_L_api_Block zr_api_Block (by intro v hv; simp at hv; rcases hv with rfl | rfl | rfl | rfl <;> rfl) rfl (by decide) (by decide)) ?_
    rintro _ _ ⟨g27, rfl, rfl⟩
    refine Ol.p (bds (cs := #[.slice none 0 0, .slice (some ⟨g27, 0, none⟩) 4 4]) bs_api_Func zr_api_Func (hf := by kernel_rfl)) ?_
    refine Ol.x (alc zr_api_Func) ?_
    rintro _ _ ⟨g2, rfl, rfl⟩
    refine Ol.s (stw (vs := #[.slice none 0 0, .slice (some ⟨g27, 0, none⟩) 4 4]) sz_api_Func rfl (by intro u hu; simp at hu; rcases hu with rfl | rfl <;> rfl) (i := 0) rfl rfl) ?_
    refine Ol.nil ?_
    obtain ⟨tl, htl, hok, LR, hLR, hbase⟩ : ∃ tl : List Tm, tl.length = 4 ∧ (∀ t ∈ tl, okG t) ∧ ∃ LR : List Res, LR = [blk g2 (.cells #[.slice none 0 0, .slice (some ⟨g27, 0, none⟩) 4 4] 25), BR (some ⟨g27, 0, none⟩) 4 4 tl] ∧ tl = G4 ((n : Int).tmod 4) ((IntKind.i64.wrap ((n : Int).tdiv 4)).tmod 4) ((IntKind.i64.wrap ((n : Int).tdiv 16)).tmod 4) ((IntKind.i64.wrap ((n : Int).tdiv 64)).tmod 4) ((IntKind.i64.wrap ((n : Int).tdiv 256)).tmod 4) (IntKind.i64.wrap ((n : Int).tdiv 1024)) := by
      have m1 : ((n / 4 : Nat) : Int).tmod 4 = ((n / 4 % 4 : Nat) : Int) := rfl
      have m2 : ((n / 16 : Nat) : Int).tmod 4 = ((n / 16 % 4 : Nat) : Int) := rfl
      have m3 : ((n / 64 : Nat) : Int).tmod 4 = ((n / 64 % 4 : Nat) : Int) := rfl
      have m4 : ((n / 256 : Nat) : Int).tmod 4 = ((n / 256 % 4 : Nat) : Int) := rfl
      have m0 : (n : Int).tmod 4 = ((n % 4 : Nat) : Int) := rfl
      exact ⟨_, rfl, G4_ok (by omega) (by rw [q4, m1]; omega) (by rw [q16, m2]; omega) (by rw [q64, m3]; omega) (by rw [q256, m4]; omega) (by rw [q1024]; omega), _, rfl, rfl⟩
    refine Cd.keep (L' := LR) (by rw [hLR, hbase]; exact .all) ?_
    have R0 : LR[0]? = some (blk g2 (.cells #[.slice none 0 0, .slice (some ⟨g27, 0, none⟩) 4 4] 25)) := by rw [hLR]; rfl
    have R1 : LR[1]? = some (BR (some ⟨g27, 0, none⟩) 4 4 tl) := by rw [hLR]; rfl
    have hrd : ∀ {M : List Res} {w' : World}, Hp w w.heap.size (M ++ LR) w' → Reads w' w'.heap.size 5 (some ⟨g27, 0, none⟩) 4 ((tl.map BN).flatMap RBlk.cells) := fun hh => Reads.row hh (i := 1) R1
    have hfu : ∀ {M : List Res} {w' : World}, Hp w w.heap.size (M ++ LR) w' → FunAt w' w'.heap.size (GF (some ⟨g27, 0, none⟩) 4 tl) := fun hh => GF_at (by rw [htl]; exact hrd hh)
    have hfi : Fit (GF (some ⟨g27, 0, none⟩) 4 tl) := GF_fit hok (by omega) (by omega)
    have hval : (GF (some ⟨g27, 0, none⟩) 4 tl).val = .agg #[.slice none 0 0, .slice (some ⟨g27, 0, none⟩) 4 4] := by
      show Value.agg #[.slice none 0 0, .slice (some ⟨g27, 0, none⟩) (tl.map BN).length 4] = _
      rw [List.length_map, htl]
    obtain ⟨ol, hol⟩ : ∃ ol, ol = domO (GF (some ⟨g27, 0, none⟩) 4 tl).terms := ⟨_, rfl⟩
    have hgl : (GF (some ⟨g27, 0, none⟩) 4 tl).blocks.length = 4 := by show (tl.map BN).length = 4; rw [List.length_map]; exact htl
    have l1 : ol.length < 2 ^ 30 := by
      rw [hol]
      have := domO_len (GF (some ⟨g27, 0, none⟩) 4 tl).terms
      have e : (GF (some ⟨g27, 0, none⟩) 4 tl).terms.length = (GF (some ⟨g27, 0, none⟩) 4 tl).blocks.length := by simp [RFun.terms]
      omega
    have kD : ∀ {M : List Res} {w' : World} {x y : Int}, (-9223372036854775808 ≤ x ∧ x ≤ 9223372036854775807) → (-9223372036854775808 ≤ y ∧ y ≤ 9223372036854775807) → Hp w w.heap.size (M ++ LR) w' → Ct Tryz.prog 5 #[.agg #[.slice none 0 0, .slice (some ⟨g27, 0, none⟩) 4 4], .int .i64 x, .int .i64 y] w' (Is (.bool true)) := fun hx hy hh => dtells_ct (hT.now hh) htl hok (Nat.le_refl _) (by decide) (hrd hh) hx hy
    have kO : ∀ {M : List Res} {w' : World}, Hp w w.heap.size (M ++ LR) w' → Ct Tryz.prog 34 #[.agg #[.slice none 0 0, .slice (some ⟨g27, 0, none⟩) 4 4]] w' (PartO ol) := fun hh => by
      have := dom_Of_ct3 hol (hfu hh) hfi
      rw [hval] at this
      exact this
    have kR : ∀ {M : List Res} {w' : World}, Hp w w.heap.size (M ++ LR) w' → Ct Tryz.prog 35 #[.agg #[.slice none 0 0, .slice (some ⟨g27, 0, none⟩) 4 4]] w' (NewL 3 1 ol.length (ints ol)) := fun hh => by
      have := ref11_Of_ct (hfu hh) hfi (by omega)
      rw [hval, ← hol] at this
      exact this
    clear hbase hLR
    have t3 : (n : Int).tmod 3 = ((n % 3 : Nat) : Int) := rfl
    have m5 : (IntKind.i64.wrap ((n : Int).tdiv 5)).tmod 6 = ((n / 5 % 6 : Nat) : Int) := by rw [q5]; rfl
    refine Cd.mid (fun σ' L' => Has σ' [(1, .int .i64 n), (55, .bool false)] ∧ Keep L' []) ?_ ?_
    · cases c0 : decide ((n : Int).tmod 3 = 0) with
      | true =>
        have c1 : decide ((n : Int).tmod 3 = 1) = false := by
          have := of_decide_eq_true c0
          exact decide_eq_false (by omega)
        refine Cd.draw mixed 27 (exIs (fun opNo => match opNo with | 11 => some (.bool true) | _ => none)) (fun _ => []) (by kernel_rfl) exIs_in (fun u hu => ?_)
        refine Wk.p mvi ?_
        refine Wk.p remi ?_
        refine Wk.p eqi ?_
        refine Wk.p mvb ?_
        refine Wk.gp c0 (ldw (cs := #[.slice none 0 0, .slice (some ⟨g27, 0, none⟩) 4 4]) ag_api_Func (i := 0) R0 rfl) ?_
        refine Wk.gp c0 mvi ?_
        refine Wk.gp c0 remi ?_
        refine Wk.gp c0 (subi (hr := by omega)) ?_
        refine Wk.gp c0 mvi ?_
        refine Wk.gp c0 quoi ?_
        refine Wk.gp c0 remi ?_
        refine Wk.gdk hu c0 (sp_call (vs := [.agg #[.slice none 0 0, .slice (some ⟨g27, 0, none⟩) 4 4], .int .i64 ((n : Int).tmod 5 - 1), .int .i64 ((IntKind.i64.wrap ((n : Int).tdiv 5)).tmod 6)]) en_law11_DomTells (fun M w' hh => kD (by omega) (by omega) hh)) ?_
        refine Wk.gp c0 noti ?_
        refine Wk.p (pkTb c0) ?_
        refine Wk.p mvb ?_
        refine Wk.gp rfl mvi ?_
        refine Wk.gp rfl remi ?_
        refine Wk.gp rfl eqi ?_
        refine Wk.gp rfl mvb ?_
        refine Wk.gn c1 ?_
        refine Wk.gn c1 ?_
        refine Wk.gn c1 ?_
        refine Wk.gn c1 ?_
        refine Wk.gn c1 ?_
        refine Wk.gn c1 ?_
        refine Wk.gp rfl (pkFb c1) ?_
        refine Wk.p (pkFb rfl) ?_
        refine Wk.nil ?_
        rw [needs_exIs hu rfl]
        refine Ol.nil ?_
        exact ⟨⟨rfl, rfl, trivial⟩, Keep.nil⟩
      | false =>
        cases c1 : decide ((n : Int).tmod 3 = 1) with
        | false =>
          refine Cd.draw mixed 27 (fun _ => none) (fun _ => []) (by kernel_rfl) (fun _ _ h => by cases h) (fun u hu => ?_)
          refine Wk.p mvi ?_
          refine Wk.p remi ?_
          refine Wk.p eqi ?_
          refine Wk.p mvb ?_
          refine Wk.gn c0 ?_
          refine Wk.gn c0 ?_
          refine Wk.gn c0 ?_
          refine Wk.gn c0 ?_
          refine Wk.gn c0 ?_
          refine Wk.gn c0 ?_
          refine Wk.gn c0 ?_
          refine Wk.gn c0 ?_
          refine Wk.gn c0 ?_
          refine Wk.p (pkFb c0) ?_
          refine Wk.p mvb ?_
          refine Wk.gp rfl mvi ?_
          refine Wk.gp rfl remi ?_
          refine Wk.gp rfl eqi ?_
          refine Wk.gp rfl mvb ?_
          refine Wk.gn c1 ?_
          refine Wk.gn c1 ?_
          refine Wk.gn c1 ?_
          refine Wk.gn c1 ?_
          refine Wk.gn c1 ?_
          refine Wk.gn c1 ?_
          refine Wk.gp rfl (pkFb c1) ?_
          refine Wk.p (pkFb rfl) ?_
          refine Wk.nil ?_
          refine Ol.nil ?_
          exact ⟨⟨rfl, rfl, trivial⟩, Keep.nil⟩
        | true =>
          refine Cd.draw mixed 27 (fun opNo => match opNo with | 20 => some (PartO ol) | 22 => some (NewL 3 1 ol.length (ints ol)) | 23 => some (Is (.bool true)) | _ => none) (fun opNo => match opNo with | 23 => [20, 22] | _ => []) (by kernel_rfl) (by intro q V h; split at h <;> cases h; exact partO_in ol; exact ⟨_, _, none, 0, rfl, rfl⟩; exact ⟨_, [], rfl, rfl⟩) (fun u hu => ?_)
          refine Wk.p mvi ?_
          refine Wk.p remi ?_
          refine Wk.p eqi ?_
          refine Wk.p mvb ?_
          refine Wk.gn c0 ?_
          refine Wk.gn c0 ?_
          refine Wk.gn c0 ?_
          refine Wk.gn c0 ?_
          refine Wk.gn c0 ?_
          refine Wk.gn c0 ?_
          refine Wk.gn c0 ?_
          refine Wk.gn c0 ?_
          refine Wk.gn c0 ?_
          refine Wk.p (pkFb c0) ?_
          refine Wk.p mvb ?_
          refine Wk.gp rfl mvi ?_
          refine Wk.gp rfl remi ?_
          refine Wk.gp rfl eqi ?_
          refine Wk.gp rfl mvb ?_
          refine Wk.gp c1 (ldw (cs := #[.slice none 0 0, .slice (some ⟨g27, 0, none⟩) 4 4]) ag_api_Func (i := 0) R0 rfl) ?_
          refine Wk.gx (V := PartO ol) hu c1 (sp_call (vs := [.agg #[.slice none 0 0, .slice (some ⟨g27, 0, none⟩) 4 4]]) en_dom_Of (fun M w' hh => kO hh)) ?_
          rintro _ _ hu20 ⟨A49, c49, R49, rfl, rfl, ho1, hp1⟩
          refine Wk.gp c1 (ldw (cs := #[.slice none 0 0, .slice (some ⟨g27, 0, none⟩) 4 4]) ag_api_Func (i := 0) R0 rfl) ?_
          refine Wk.gx (V := NewL 3 1 ol.length (ints ol)) hu c1 (sp_call (vs := [.agg #[.slice none 0 0, .slice (some ⟨g27, 0, none⟩) 4 4]]) en_ref11_Of (fun M w' hh => kR hh)) ?_
          rintro _ _ hu22 ⟨A51, c51, rfl, rfl⟩
          refine Wk.gxn (V := Is (.bool true)) hu c1 (l := [20, 22]) rfl (by simp) (by rw [needs_cons hu20, needs_cons hu22, needs_none]; exact (sp_call en_kit_SameInts (fun M w' hh => kit_SameInts_self ((hp1 w w.heap.size).keep (.sub (.cons_cons _ (List.nil_sublist _))) M w' hh) (Reads.row hh (i := 1) rfl) (by omega)))) ?_
          rintro _ _ hu23 ⟨rfl, rfl⟩
          refine Wk.gp c1 noti ?_
          refine Wk.gp rfl (pkTb c1) ?_
          refine Wk.p (pkFb rfl) ?_
          refine Wk.nil ?_
          rw [needs_cons hu23, needs_cons hu22, needs_cons hu20, needs_none]
          refine Ol.nil ?_
          exact ⟨⟨rfl, rfl, trivial⟩, Keep.nil⟩
    rintro σ' L' ⟨hs', hkp⟩
    refine Cd.keep hkp ?_
    refine Cd.has hs' ?_
    clear hs' hkp
    refine Cd.cond rfl (fun h => nomatch h) (fun h => ?_)   -- $55
    refine Cd.skip ?_
    refine Cd.region ?_
    refine Ol.p mvi ?_
    refine Ol.p addi ?_
    refine Ol.p asi ?_
    refine Ol.nil ?_
    exact ⟨4096 - (n + 1), by omega, n + 1, rfl, by omega, ⟨rfl, trivial⟩, rfl⟩
  refine Cd.exit (id := 0) ?_
  refine Cd.seq ?_
  refine Cd.region ?_
  refine Ol.p (bds (cs := #[.slice none 0 0, .slice none 0 0]) bs_api_Func zr_api_Func (hf := by kernel_rfl)) ?_
  refine Ol.s (cl (v := .bool true) (vs := [.agg #[.slice none 0 0, .slice none 0 0], .int .i64 0, .int .i64 0]) en_law11_DomTells (fun M w' hh => dtells_ct (tl := []) (hT.now hh) rfl (fun t ht => by cases ht) (Nat.le_refl _) (by decide) Reads.none_ (by omega) (by omega))) ?_
  refine Ol.p mvb ?_
  refine Ol.gs rfl (cl (v := (BN ⟨1, 0, 1, 0⟩).val) en_law11_jump (fun M w' hh => law11_jump_ct)) ?_
  refine Ol.gx rfl (bsn [(BN ⟨1, 0, 1, 0⟩).val] sl_L_api_Block zr_api_Block (by intro v hv; simp at hv; subst hv; rfl) rfl (by decide) (by decide)) ?_
  rintro _ _ ⟨g60, rfl, rfl⟩
  refine Ol.gp rfl (bds (cs := #[.slice none 0 0, .slice (some ⟨g60, 0, none⟩) 1 1]) bs_api_Func zr_api_Func (hf := by kernel_rfl)) ?_
  refine Ol.gs rfl (cl (v := .bool true) (vs := [.agg #[.slice none 0 0, .slice (some ⟨g60, 0, none⟩) 1 1], .int .i64 0, .int .i64 0]) en_law11_DomTells (fun M w' hh => dtells_ct (tl := [⟨1, 0, 1, 0⟩]) (hT.now hh) rfl (fun t ht => by simp at ht; subst ht; exact okG_ju (by omega)) (Nat.le_refl _) (by decide) (Reads.row hh (i := 0) rfl) (by omega) (by omega))) ?_
  refine Ol.p (pkTb rfl) ?_
  refine Ol.p mvb ?_
  refine Ol.gs rfl (cl (v := (BN ⟨1, 0, 0, 0⟩).val) en_law11_jump (fun M w' hh => law11_jump_ct)) ?_
  refine Ol.gs rfl (cl (v := (BN ⟨1, 0, 0, 0⟩).val) en_law11_jump (fun M w' hh => law11_jump_ct)) ?_
  refine Ol.gx rfl (bsn [(BN ⟨1, 0, 0, 0⟩).val, (BN ⟨1, 0, 0, 0⟩).val] sl_L_api_Block zr_api_Block (by intro v hv; simp at hv; subst hv; rfl) rfl (by decide) (by decide)) ?_
  rintro _ _ ⟨g67, rfl, rfl⟩
  refine Ol.gp rfl (bds (cs := #[.slice none 0 0, .slice (some ⟨g67, 0, none⟩) 2 2]) bs_api_Func zr_api_Func (hf := by kernel_rfl)) ?_
  refine Ol.gs rfl (cl (v := .bool true) (vs := [.agg #[.slice none 0 0, .slice (some ⟨g67, 0, none⟩) 2 2], .int .i64 0, .int .i64 1]) en_law11_DomTells (fun M w' hh => dtells_ct (tl := [⟨1, 0, 0, 0⟩, ⟨1, 0, 0, 0⟩]) (hT.now hh) rfl (fun t ht => by simp at ht; subst ht; exact okG_ju (by omega)) (Nat.le_refl _) (by decide) (Reads.row hh (i := 0) rfl) (by omega) (by omega))) ?_
  refine Ol.p (pkTb rfl) ?_
  refine Ol.p mvb ?_
  refine Ol.gs rfl (cl (v := .bool true) en_law11_awake (fun M w' hh => law11_awake_ct)) ?_
  refine Ol.p (pkTb rfl) ?_
  refine Ol.p asb ?_
  refine Ol.nil ?_
  exact Cd.ret ⟨.bool true, ret1 rfl rfl, [], Keep.nil, rfl, rfl⟩
end
end Go.Proofs.YtkefmjhagmacfaaGreatDoor

/- DomGraphs (the tied card): for every input that can be read, the law DomGraphs returns true and its arguments read as before. Conditions: the row, its listed table of math/bits tied to the text of the program. -/
namespace Go.Proofs.YtkefmjhagmacfaaGreatDoor
set_option linter.unusedVariables false
open Go Go.ChangeShapes Go.WideShapes Go.ChangeAt Go.RowKit
set_option maxRecDepth 100000

theorem domGraphs_lifted (os : Os) (started : os.Started) (H : Type) (enc : TypeId × Value → H) :
    ReturnsInHanded {} Tryz.checked os 6 .any (fun w args => (Rows.domGraphsSpec.pre enc Tryz.prog Tryz.f6 [] false w args ∧ laidMetH Tryz.prog tabL w) ∧ sizedMet enc Tryz.prog Tryz.f6 (OpenSpec.ofChange Rows.domGraphsSpec) false w args)
      (Rows.domGraphsSpec.post enc Tryz.prog Tryz.f6 false true false false) := by
  refine returnsInHanded_of_change_and (C := Tryz.checked) (X := fun w _ => laidMetH Tryz.prog tabL w) (fun _ _ _ hh h => h.of_heap hh) own_ started (by kernel_rfl) Tryz.func6
    (ChangeSpec.witness_shaped (enc := enc) (C := Tryz.checked) (os := os) (X := fun w _ => laidMetH Tryz.prog tabL w) false (World.doorLaid Tryz.prog 14 os) #[] 8 rfl (World.shaped_of_RefB (by kernel_rfl) (by kernel_rfl)) (by kernel_rfl) (by kernel_rfl) (by kernel_rfl) (door_met os _)) ?_
  intro W base args ds gs before hval0 hW _ hsz0 hL _
  have hT := tabs_of_laid hL
  have hval : ∀ (j : Nat) t v, Tryz.f6.params[j]? = some t → args[j]? = some v → Value.okWide Tryz.prog W .any base t v := hval0
  have hW' := hW
  obtain ⟨p, q, hA0, hV, rfl, hfz, hnd⟩ := hW
  have hA : DataW.TrodAll enc Tryz.prog W 0 (fun _ => true) true Tryz.f6.params.toList args.toList ds p := hA0
  have hsz : (DataW.weightsEach Tryz.prog (Tryz.f6.params.toList ++ Rows.domGraphsSpec.plain.varTypes Tryz.prog) (ds ++ gs)).all (· ≤ reachBytes) = true := hsz0
  rw [Tryz.params6] at hA hval hsz
  obtain ⟨hargs, rfl, rfl⟩ := trodAll_nil hA
  obtain rfl : args = #[] := by cases args; simp_all
  obtain ⟨rfl, rfl⟩ := trodVars_none hV
  clear hA0 hval0
  refine ((law11_DomGraphs_ct hT).calls).mono fun e W' ⟨v, he, L, hh, hv, _⟩ => ?_
  subst hv
  subst he
  have bel := hh.below
  exact ⟨_, rfl, _, _, _, [], _, [], hW', trodAll_mk1 (shut_bool Tryz.underlying4 _), trodAll_mk0, rfl, bel.frame _, fun h => by cases h⟩
theorem domGraphs_said : Rows.DomGraphsSaid :=
  OpenClaim.holds_of_wide 6 Tryz.f6 rfl rfl rfl rfl rfl rfl rfl ⟨rfl, rfl, rfl, rfl, rfl⟩ rfl rfl rfl rfl rfl (by kernel_rfl) Tryz.func6 (by kernel_rfl)
    (of_decide_eq_true (by kernel_rfl)) (by unfold Func.isWrapper; rw [if_neg (of_decide_eq_false (by kernel_rfl))]; exact ⟨rfl, rfl⟩)
    (fun os started H enc _ => domGraphs_lifted os started H enc)
theorem domGraphs_card : Rows.DomGraphsCardSaid :=
  Claim7.holds_tied_plain_at .later [] [.data] true Rows.domGraphsCard.stood.harness false domGraphs_said (fun _ h => by cases h) (by kernel_rfl) (fun _ h => by cases h) domGraphs_row_tie rfl ⟨rfl, rfl⟩ (by kernel_rfl) rfl
    (fun f fn hf hfn => by
      obtain rfl : f = 6 := Option.some.inj ((show Tryz.prog.funcNamed "intarsia/intarsialaw11.DomGraphs" = some 6 by kernel_rfl).symm.trans hf) |>.symm
      obtain rfl : fn = Tryz.f6 := (Option.some.inj (Tryz.func6.symm.trans hfn)).symm
      exact ⟨by kernel_rfl, fun j t ht => by
        rw [Tryz.params6] at ht
        simp at ht⟩)
    (by kernel_rfl)
end Go.Proofs.YtkefmjhagmacfaaGreatDoor

