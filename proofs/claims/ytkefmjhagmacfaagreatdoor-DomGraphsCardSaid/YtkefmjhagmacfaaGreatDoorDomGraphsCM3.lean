/- Part 3 of the proof of DomGraphsC: the texts RefQ, Ref10C, Grow, Bare, Same, TermEq, Own, SameF, Lent, FlatL, FlatI, one behind the other. -/
import Derived.Test.YtkefmjhagmacfaaGreatDoorDomGraphsCM2
/- Plain laws behind the document's answer of layer 10: rounds over all edges that are open. -/
namespace Go.Proofs.YtkefmjhagmacfaaGreatDoor
set_option linter.unusedVariables false
set_option linter.unusedSimpArgs false
open Go Go.RowKit
def upQ (P : Ed → Bool) (S : Nat → Bool) (e : Ed) : Nat → Bool := orB S e.to.toNat (S e.src.toNat && P e)
/-- The first m edges are gone along. -/
def qM (P : Ed → Bool) (ts : List Tm) (m : Nat) (S : Nat → Bool) : Nat → Bool := ((edges ts).take m).foldl (upQ P) S
def qA (P : Ed → Bool) (ts : List Tm) (S : Nat → Bool) : Nat → Bool := qM P ts (edges ts).length S
section
variable {P : Ed → Bool} {ts : List Tm}
theorem qM_succ {m : Nat} {e : Ed} (h : (edges ts)[m]? = some e) (S : Nat → Bool) : qM P ts (m + 1) S = upQ P (qM P ts m S) e := by
  unfold qM
  rw [take_snoc_ h, List.foldl_append]
  rfl
theorem qM_over {m : Nat} (h : (edges ts).length ≤ m) (S : Nat → Bool) : qM P ts m S = qA P ts S := by
  unfold qA qM
  rw [List.take_of_length_le h, List.take_length]
theorem qM_mono {S : Nat → Bool} {i : Nat} : ∀ (m d : Nat), qM P ts m S i = true → qM P ts (m + d) S i = true
  | m, 0, h => h
  | m, d + 1, h => by
    have ih := qM_mono m d h
    rw [← Nat.add_assoc]
    by_cases hl : m + d < (edges ts).length
    · rw [qM_succ (List.getElem?_eq_getElem hl)]
      exact orB_mono ih
    · rw [qM_over (by omega)] at ih ⊢
      exact ih
theorem qM_sub {S : Nat → Bool} {i : Nat} (h : S i = true) (m : Nat) : qM P ts m S i = true := by
  have := qM_mono (P := P) (ts := ts) (S := S) (i := i) 0 m h
  rwa [Nat.zero_add] at this
theorem qM_all {S : Nat → Bool} {i m : Nat} (hm : m ≤ (edges ts).length) (h : qM P ts m S i = true) : qA P ts S i = true := by
  have := qM_mono (P := P) (ts := ts) (S := S) (i := i) m ((edges ts).length - m) h
  rwa [Nat.add_sub_cancel' hm] at this
theorem qM_sound {R : Nat → Prop} {S : Nat → Bool} (hS : ∀ i, S i = true → R i) (hR : ∀ e ∈ edges ts, R e.src.toNat → P e = true → R e.to.toNat) : ∀ m i, qM P ts m S i = true → R i
  | 0, i, h => hS i h
  | m + 1, i, h => by
    by_cases hl : m < (edges ts).length
    · rw [qM_succ (List.getElem?_eq_getElem hl)] at h
      unfold upQ orB at h
      split at h
      · rename_i e
        rw [Bool.or_eq_true, Bool.and_eq_true] at h
        rcases h with h | ⟨h1, h2⟩
        · exact qM_sound hS hR m i h
        · rw [e]
          exact hR _ (List.getElem_mem hl) (qM_sound hS hR m _ h1) h2
      · exact qM_sound hS hR m i h
    · rw [qM_over (by omega), ← qM_over (m := m) (by omega)] at h
      exact qM_sound hS hR m i h
def FixQ (P : Ed → Bool) (ts : List Tm) (n : Nat) (S : Nat → Bool) : Prop := ∀ i, i < n → qA P ts S i = S i
theorem FixQ.closed {n : Nat} {S : Nat → Bool} (hE : Ends ts n) (h : FixQ P ts n S) {e : Ed} (he : e ∈ edges ts) (h1 : S e.src.toNat = true) (h2 : P e = true) : S e.to.toNat = true := by
  obtain ⟨j, hj⟩ := List.mem_iff_getElem?.1 he
  have hjl := (List.getElem?_eq_some_iff.1 hj).1
  rw [← h _ (hE e he).2]
  refine qM_all (m := j + 1) (by omega) ?_
  rw [qM_succ hj]
  unfold upQ orB
  rw [if_pos rfl, qM_sub h1, h2]
  simp
theorem qM_congr {n : Nat} {S T : Nat → Bool} (hE : Ends ts n) (h : ∀ i, i < n → S i = T i) : ∀ m i, i < n → qM P ts m S i = qM P ts m T i
  | 0, i, hi => h i hi
  | m + 1, i, hi => by
    by_cases hl : m < (edges ts).length
    · rw [qM_succ (List.getElem?_eq_getElem hl), qM_succ (List.getElem?_eq_getElem hl)]
      have hm := hE _ (List.getElem_mem hl)
      unfold upQ orB
      rw [qM_congr hE h m i hi, qM_congr hE h m _ hm.1]
    · rw [qM_over (by omega), qM_over (by omega), ← qM_over (m := m) (by omega), ← qM_over (m := m) (by omega)]
      exact qM_congr hE h m i hi
theorem FixQ.next {n : Nat} {S : Nat → Bool} (hE : Ends ts n) (h : FixQ P ts n S) : FixQ P ts n (qA P ts S) := fun i hi => by
  have h1 := qM_congr (P := P) hE h (edges ts).length i hi
  exact h1
theorem roundsQ {n : Nat} (hE : Ends ts n) (S : Nat → Bool) : ∀ k, FixQ P ts n (iterF (qA P ts) k S) ∨ k + cntB n S ≤ cntB n (iterF (qA P ts) k S)
  | 0 => .inr (by rw [Nat.zero_add]; exact Nat.le_refl _)
  | k + 1 => by
    by_cases hf : FixQ P ts n (iterF (qA P ts) k S)
    · exact .inl (hf.next hE)
    · rcases roundsQ hE S k with h | h
      · exact absurd h hf
      · right
        have : ∃ i, i < n ∧ qA P ts (iterF (qA P ts) k S) i ≠ iterF (qA P ts) k S i := by
          apply Classical.byContradiction
          intro hno
          exact hf fun i hi => Classical.byContradiction fun hne => hno ⟨i, hi, hne⟩
        obtain ⟨i, hi, hne⟩ := this
        have hS : iterF (qA P ts) k S i = false := by
          cases hc : iterF (qA P ts) k S i with
          | false => rfl
          | true => exact absurd (by rw [hc]; exact qM_sub hc _) hne
        have hT : qA P ts (iterF (qA P ts) k S) i = true := by
          cases hc : qA P ts (iterF (qA P ts) k S) i with
          | true => rfl
          | false => exact absurd (hc.trans hS.symm) hne
        have := cntB_up (T := qA P ts (iterF (qA P ts) k S)) (fun j _ hj => qM_sub hj _) hi hS hT
        show k + 1 + cntB n S ≤ cntB n (qA P ts (iterF (qA P ts) k S))
        omega
/-- The last round but one has nothing more to do. -/
theorem roundsQ_last {n : Nat} (hE : Ends ts n) (hn : 0 < n) {S : Nat → Bool} (h0 : 1 ≤ cntB n S ∨ ∀ i, i < n → S i = false) : FixQ P ts n (iterF (qA P ts) (n - 1) S) := by
  rcases h0 with h0 | h0
  · rcases roundsQ (P := P) hE S (n - 1) with h | h
    · exact h
    · have hall : ∀ i, i < n → iterF (qA P ts) (n - 1) S i = true := fun i hi => by
        cases hc : iterF (qA P ts) (n - 1) S i with
        | true => rfl
        | false =>
          have := cntB_up (n := n) (S := iterF (qA P ts) (n - 1) S) (T := fun _ => true) (fun _ _ _ => rfl) hi hc rfl
          have := cntB_le n (fun _ => true)
          omega
      intro i hi
      rw [hall i hi]
      exact qM_sub (hall i hi) _
  · have key : ∀ k, ∀ i, i < n → iterF (qA P ts) k S i = false := by
      intro k
      induction k with
      | zero => exact h0
      | succ k ih =>
        intro i hi
        cases hc : iterF (qA P ts) (k + 1) S i with
        | false => rfl
        | true =>
          have := qM_sound (P := P) (ts := ts) (R := fun i => n ≤ i) (S := iterF (qA P ts) k S) (fun i h => by
            by_cases hi : i < n
            · rw [ih i hi] at h; cases h
            · omega) (fun e he h _ => by have := (hE e he).1; omega) (edges ts).length i hc
          omega
    intro i hi
    have := key (n - 1 + 1) i hi
    rw [key (n - 1) i hi]
    exact this
theorem iterQ_sub {S : Nat → Bool} {i : Nat} (h : S i = true) : ∀ k, iterF (qA P ts) k S i = true
  | 0 => h
  | k + 1 => qM_sub (iterQ_sub h k) _
theorem iterQ_sound {R : Nat → Prop} {S : Nat → Bool} (hS : ∀ i, S i = true → R i) (hR : ∀ e ∈ edges ts, R e.src.toNat → P e = true → R e.to.toNat) : ∀ k i, iterF (qA P ts) k S i = true → R i
  | 0, i, h => hS i h
  | k + 1, i, h => qM_sound (fun i h => iterQ_sound hS hR k i h) hR _ i h
end
def openQ (nt : List Int) : Ed → Bool := fun e => !nt.contains e.to
def beginQ (n : Nat) (fr nt : List Int) : Nat → Bool := fun i => decide (i < n) && (fr.contains (i : Int) && !nt.contains (i : Int))
theorem filter_range {p q : Nat → Bool} {n : Nat} (h : ∀ i, i < n → p i = q i) (h0 : ∀ i, n ≤ i → p i = false) : ∀ d, (List.range (n + d)).filter p = (List.range n).filter q
  | 0 => List.filter_congr fun i hi => h i (by simpa using hi)
  | d + 1 => by
    rw [← Nat.add_assoc, List.range_succ, List.filter_append, filter_range h h0 d]
    simp [h0 (n + d) (by omega)]
theorem edge_to {ts : List Tm} {e : Ed} (hc : closed ts = true) (he : e ∈ edges ts) : (e.to.toNat : Int) = e.to ∧ (e.to.toNat : Int) ∈ toAt ts e.src.toNat ∧ e.to.toNat < ts.length ∧ e.src.toNat < ts.length := by
  have h1 := src_range he
  have h2 := (closed_len hc).2.2 e he
  obtain ⟨k, j, t, hk, hj, h3, h4⟩ := mem_edges.1 he
  refine ⟨by omega, ?_, by omega, by omega⟩
  rw [show e.src.toNat = k by omega, toAt_some hk, Int.toNat_of_nonneg h2.1]
  exact List.mem_of_getElem? hj
theorem of_edge {ts : List Tm} {b c : Nat} (h : (c : Int) ∈ toAt ts b) : ∃ e ∈ edges ts, e.src = (b : Int) ∧ e.to = (c : Int) := by
  unfold toAt at h
  cases ht : ts[b]? with
  | none => rw [ht] at h; cases h
  | some t =>
    rw [ht] at h
    obtain ⟨j, hj⟩ := List.mem_iff_getElem?.1 h
    exact ⟨⟨(b : Int), (j : Int), (c : Int)⟩, mem_edges.2 ⟨b, j, t, ht, hj, rfl, rfl⟩, rfl, rfl⟩
/-- The blocks that open rounds reach are those that Reached tells. -/
theorem reached_q {ts : List Tm} {fr nt : List Int} (hc : closed ts = true) : reachedF ts fr nt = (List.range ts.length).filter (iterF (qA (openQ nt) ts) ts.length (beginQ ts.length fr nt)) := by
  obtain ⟨hn0, hl⟩ := closed_le hc
  have hE := ends_of hc
  obtain ⟨K, hK⟩ : ∃ K, K = iterF (qA (openQ nt) ts) ts.length (beginQ ts.length fr nt) := ⟨_, rfl⟩
  have hok : ∀ i, i < ts.length → okN (i : Int) = true := fun i hi => by rw [okN_iff]; omega
  have hbit : ∀ i : Nat, (lessL (allS ts.length) nt).testBit i = true ↔ i < ts.length ∧ nt.contains (i : Int) = false := fun i => by
    rw [testBit_lessL, testBit_allS _ _ (by omega), Bool.and_eq_true, decide_eq_true_eq]
    constructor
    · rintro ⟨h1, h2⟩
      rw [hok i h1, Bool.true_and, Bool.not_eq_true'] at h2
      exact ⟨h1, h2⟩
    · rintro ⟨h1, h2⟩
      rw [h2]
      exact ⟨h1, by simp⟩
  have hs0 : ∀ i : Nat, (lessL (allS ts.length) nt &&& ofL fr).testBit i = beginQ ts.length fr nt i := fun i => by
    unfold beginQ
    rw [Nat.testBit_and, testBit_ofL]
    by_cases hi : i < ts.length
    · have hx := hbit i
      rw [hok i hi, Bool.true_and, decide_eq_true hi, Bool.true_and]
      cases hnc : nt.contains (i : Int) with
      | true =>
        have : (lessL (allS ts.length) nt).testBit i = false := by
          cases hb : (lessL (allS ts.length) nt).testBit i with
          | false => rfl
          | true => have := (hx.1 hb).2; rw [hnc] at this; cases this
        rw [this]
        simp
      | false =>
        rw [hx.2 ⟨hi, hnc⟩]
        simp
    · have : (lessL (allS ts.length) nt).testBit i = false := by
        cases hb : (lessL (allS ts.length) nt).testBit i with
        | false => rfl
        | true => exact absurd ((hbit i).1 hb).1 hi
      rw [this, decide_eq_false hi]
      simp
  have hsub : Sub (lessL (allS ts.length) nt &&& ofL fr) (lessL (allS ts.length) nt) := fun i hi => by
    rw [Nat.testBit_and, Bool.and_eq_true] at hi
    exact hi.1
  have hop : Sm (lessL (allS ts.length) nt) := fun i hi => by
    cases hb : (lessL (allS ts.length) nt).testBit i with
    | false => rfl
    | true => have := (hbit i).1 hb; omega
  have h0 : 1 ≤ cntB ts.length (beginQ ts.length fr nt) ∨ ∀ i, i < ts.length → beginQ ts.length fr nt i = false := by
    by_cases h : ∃ i, i < ts.length ∧ beginQ ts.length fr nt i = true
    · obtain ⟨i, hi, hb⟩ := h
      have := cntB_up (n := ts.length) (S := fun _ => false) (T := beginQ ts.length fr nt) (fun _ _ h => by cases h) hi rfl hb
      exact .inl (by omega)
    · refine .inr fun i hi => ?_
      cases hb : beginQ ts.length fr nt i with
      | false => rfl
      | true => exact absurd ⟨i, hi, hb⟩ h
  have hfix : FixQ (openQ nt) ts ts.length K := by
    have := (roundsQ_last (P := openQ nt) hE hn0 h0).next hE
    have e : K = qA (openQ nt) ts (iterF (qA (openQ nt) ts) (ts.length - 1) (beginQ ts.length fr nt)) := by
      rw [hK]
      have e0 : ∀ m, iterF (qA (openQ nt) ts) (m + 1) (beginQ ts.length fr nt) = qA (openQ nt) ts (iterF (qA (openQ nt) ts) m (beginQ ts.length fr nt)) := fun _ => rfl
      have := e0 (ts.length - 1)
      rwa [Nat.sub_add_cancel hn0] at this
    rw [e]
    exact this
  have key := fun i => mem_reach_op (ts := ts) hsub hop (fun i => K i = true) (fun a ha => by
      rw [hs0] at ha
      rw [hK]
      exact iterQ_sub ha _) (fun b c hb he ho => by
      obtain ⟨e, hem, h1, h2⟩ := of_edge he
      have := hfix.closed hE hem (by rw [h1]; simpa using hb) (by unfold openQ; rw [h2, ((hbit c).1 ho).2]; rfl)
      rw [h2] at this
      simpa using this) (fun Q h0 hs i hi => by
      rw [hK] at hi
      refine iterQ_sound (P := openQ nt) (ts := ts) (R := Q) (fun i h => h0 i (by rw [hs0]; exact h)) (fun e he hq ho => ?_) _ i hi
      obtain ⟨h1, h2, h3, _⟩ := edge_to hc he
      refine hs _ _ hq h2 ((hbit _).2 ⟨h3, ?_⟩)
      rw [h1]
      unfold openQ at ho
      simpa using ho) i
  unfold reachedF
  rw [hc, cond_true]
  have hlt : ∀ i, (reachS ts (lessL (allS ts.length) nt) (lessL (allS ts.length) nt &&& ofL fr)).testBit i = true → i < ts.length := fun i hi => ((hbit i).1 (iterF_sub hsub 1025 i hi)).1
  have : 1024 = ts.length + (1024 - ts.length) := by omega
  unfold listS upto
  rw [this, ← hK]
  refine filter_range (fun i hi => ?_) (fun i hi => ?_) _
  · have h := key i
    cases hb : (reachS ts (lessL (allS ts.length) nt) (lessL (allS ts.length) nt &&& ofL fr)).testBit i with
    | true => exact (h.1 hb).symm
    | false =>
      cases hk : K i with
      | false => rfl
      | true => rw [h.2 hk] at hb; cases hb
  · cases hb : (reachS ts (lessL (allS ts.length) nt) (lessL (allS ts.length) nt &&& ofL fr)).testBit i with
    | false => rfl
    | true => have := hlt i hb; omega
end Go.Proofs.YtkefmjhagmacfaaGreatDoor

/- Reference 10: what is reached, walked. -/
namespace Go.Proofs.YtkefmjhagmacfaaGreatDoor
set_option linter.unusedVariables false
set_option linter.unusedSimpArgs false
open Go Go.RowKit
set_option maxRecDepth 100000
theorem range_snoc {k : Nat} {S : Nat → Bool} : (List.range (k + 1)).filter S = (List.range k).filter S ++ (if S k = true then [k] else []) := by
  rw [List.range_succ, List.filter_append]
  congr 1
  by_cases h : S k = true <;> simp [List.filter, h]
section
set_option maxHeartbeats 4000000 in
theorem ref10_Reached_ct {w : World} {f : RFun} {A1 A2 : Option Addr} {c1 c2 : Nat} {fr nt : List Int} (hf : FunAt w w.heap.size f) (hfit : Fit f) (hfr : Reads w w.heap.size 1 A1 fr.length (ints fr)) (hnt : Reads w w.heap.size 1 A2 nt.length (ints nt)) (hfl : fr.length < 2 ^ 60) (hnl : nt.length < 2 ^ 60) :
    Ct Tryz.prog 26 #[f.val, .slice A1 fr.length c1, .slice A2 nt.length c2] w (NewL 3 1 (reachedF f.terms fr nt).length (intsN (reachedF f.terms fr nt))) := by
  have htl : f.terms.length = f.blocks.length := by simp [RFun.terms]
  refine Ct.mk Tryz.func26 rfl rfl ?_
  refine Cd.seq ?_
  refine Cd.region ?_
  refine Ol.x bxg ?_
  rintro _ _ ⟨g3, rfl, rfl⟩
  refine Ol.p ass ?_
  refine Ol.nil ?_
  refine Cd.seq ?_
  refine Cd.seq ?_
  refine Cd.region ?_
  refine Ol.p (ldw (cs := f.cells.toArray) ag_api_Func (i := 0) rfl rfl) ?_
  refine Ol.s (cl (v := .bool (closed f.terms)) en_ref10_Closed (fun M w' hh => ref10_Closed_ct (hf.now hh) hfit)) ?_
  refine Ol.p noti ?_
  refine Ol.nil ?_
  refine Cd.cond rfl (fun h => ?_) (fun h => ?_)   -- $16
  · have hcl : closed f.terms = false := by simpa using h
    have e : reachedF f.terms fr nt = [] := by unfold reachedF; rw [hcl]; rfl
    rw [e]
    refine Cd.nr 3 1 ?_
    refine Cd.seq ?_
    refine Cd.region ?_
    refine Ol.p ass ?_
    refine Ol.nil ?_
    exact Cd.ret ⟨.slice none 0 0, ret1 rfl rfl, _, .sub (.cons_cons _ (List.nil_sublist _)), none, 0, rfl, rfl⟩
  have hcl : closed f.terms = true := by simpa using h
  obtain ⟨hpos, hmax, hedge⟩ := closed_len hcl
  rw [htl] at hpos hmax hedge
  have hel := edges_len_le f
  obtain ⟨n, hn⟩ : ∃ n, n = f.blocks.length := ⟨_, rfl⟩
  have hres := reached_q (fr := fr) (nt := nt) hcl
  rw [htl, ← hn] at hres
  obtain ⟨S0, hS0⟩ : ∃ S0, S0 = beginQ n fr nt := ⟨_, rfl⟩
  rw [← hS0] at hres
  obtain ⟨K, hK⟩ : ∃ K, K = iterF (qA (openQ nt) f.terms) n S0 := ⟨_, rfl⟩
  rw [← hK] at hres
  rw [hres]
  clear hres
  refine Cd.skip ?_
  refine Cd.seq ?_
  refine Cd.region ?_
  refine Ol.p (fdl fd_api_Func_1) ?_
  refine Ol.p (ld (v := .slice f.bA f.blocks.length f.bC) one_L_api_Block (Rd.blk (i := 0) rfl rfl)) ?_
  refine Ol.p (lens sl_L_api_Block) ?_
  refine Ol.x (mks (n := f.blocks.length) (c := f.blocks.length) sl_L_bool zr_bool) ?_
  rintro _ _ ⟨gs, rfl, rfl⟩
  refine Ol.p ass ?_
  refine Ol.nil ?_
  rw [show (madeCells (Value.bool false).cells (f.blocks.length * 1)).toList.take (f.blocks.length * 1) = boolsL f.blocks.length fun _ => false from made_bools _, ← hn]
  refine Cd.seq ?_
  refine Cd.seq ?_
  refine Cd.region ?_
  refine Ol.p asi ?_
  refine Ol.nil ?_
  refine Cd.block ?_   -- 0
  refine Cd.loop (fun m σ L => ∃ k : Nat, m = n - k ∧ k ≤ n ∧ Has σ [(1, .slice A1 fr.length c1), (2, .slice A2 nt.length c2), (3, .pointer (some ⟨g3, 0, none⟩)), (7, .slice (some ⟨gs, 0, none⟩) n n), (8, .int .i64 k)] ∧ [row (.slice (some ⟨gs, 0, none⟩) n n) 4 1 n (boolsL n fun i => decide (i < k) && S0 i), blk g3 (.cells f.cells.toArray 25)] = L) (n := n) ⟨0, rfl, Nat.zero_le _, ⟨rfl, rfl, rfl, rfl, rfl, trivial⟩, by rw [show (boolsL n fun _ => false) = boolsL n fun i => decide (i < 0) && S0 i from boolsL_same fun i _ => by simp]⟩ ?_
  rintro _ σ L ⟨k, rfl, hk, hs, rfl⟩
  refine Cd.has hs ?_
  clear hs
  refine Cd.seq ?_
  refine Cd.seq ?_
  refine Cd.region ?_
  refine Ol.p mvi ?_
  refine Ol.p (fdl fd_api_Func_1) ?_
  refine Ol.p (ld (v := .slice f.bA f.blocks.length f.bC) one_L_api_Block (Rd.blk (i := 1) rfl rfl)) ?_
  refine Ol.p (lens sl_L_api_Block) ?_
  refine Ol.p lsi ?_
  refine Ol.nil ?_
  rw [← hn]
  refine Cd.cond rfl (fun h => ?_) (fun h => ?_)   -- $25
  · have hlt := lt_of h
    have hS0k : S0 k = (fr.contains (k : Int) && !nt.contains (k : Int)) := by
      rw [hS0]
      unfold beginQ
      rw [decide_eq_true hlt, Bool.true_and]
    refine Cd.skip ?_
    refine Cd.mid (fun σ' L' => Has σ' [(1, .slice A1 fr.length c1), (2, .slice A2 nt.length c2), (3, .pointer (some ⟨g3, 0, none⟩)), (7, .slice (some ⟨gs, 0, none⟩) n n), (8, .int .i64 k)] ∧ [row (.slice (some ⟨gs, 0, none⟩) n n) 4 1 n ((boolsL n fun i => decide (i < k) && S0 i).set k (.bool (S0 k))), blk g3 (.cells f.cells.toArray 25)] = L') ?_ ?_
    · refine Cd.block ?_   -- 1
      rw [hS0k]
      cases h5 : fr.contains (k : Int) with
      | true =>
        refine Cd.region ?_
        refine Ol.p mvs ?_
        refine Ol.p mvi ?_
        refine Ol.p mvs ?_
        refine Ol.p mvi ?_
        refine Ol.s (cl (v := .bool true) en_ref10_has (fun M w' hh => h5 ▸ ref10_has_ct (hfr.now hh) (by omega))) ?_
        refine Ol.p mvb ?_
        refine Ol.gp rfl mvs ?_
        refine Ol.gp rfl mvi ?_
        refine Ol.gs rfl (cl (v := .bool (nt.contains (k : Int))) en_ref10_has (fun M w' hh => ref10_has_ct (hnt.now hh) (by omega))) ?_
        refine Ol.gp rfl noti ?_
        refine Ol.p (pkTb rfl) ?_
        refine Ol.p (ixn1 (ix := k) sl_L_bool (Som.row (i := 0) rfl (by omega))) ?_
        refine Ol.s (str (i := 0) (k := k) (v := .bool (!nt.contains (k : Int))) sz_bool rfl rfl rfl (by rw [boolsL_len]; exact hlt) rfl) ?_
        refine Ol.nil ?_
        exact ⟨⟨rfl, rfl, rfl, rfl, rfl, trivial⟩, rfl⟩
      | false =>
        refine Cd.region ?_
        refine Ol.p mvs ?_
        refine Ol.p mvi ?_
        refine Ol.p mvs ?_
        refine Ol.p mvi ?_
        refine Ol.s (cl (v := .bool false) en_ref10_has (fun M w' hh => h5 ▸ ref10_has_ct (hfr.now hh) (by omega))) ?_
        refine Ol.p mvb ?_
        refine Ol.gn rfl ?_
        refine Ol.gn rfl ?_
        refine Ol.gn rfl ?_
        refine Ol.gn rfl ?_
        refine Ol.p (pkFb rfl) ?_
        refine Ol.p (ixn1 (ix := k) sl_L_bool (Som.row (i := 0) rfl (by omega))) ?_
        refine Ol.s (str (i := 0) (k := k) (v := .bool false) sz_bool rfl rfl rfl (by rw [boolsL_len]; exact hlt) rfl) ?_
        refine Ol.nil ?_
        exact ⟨⟨rfl, rfl, rfl, rfl, rfl, trivial⟩, rfl⟩
    rintro σ' _ ⟨hs', rfl⟩
    refine Cd.has hs' ?_
    clear hs'
    rw [boolsL_put, show (boolsL n fun i => if i = k then S0 k else decide (i < k) && S0 i) = boolsL n fun i => decide (i < k + 1) && S0 i from boolsL_same fun i _ => by
      by_cases h1 : i = k
      · subst h1
        simp
      · rw [if_neg h1, decide_eq_decide.2 (by omega : i < k ↔ i < k + 1)]]
    refine Cd.region ?_
    refine Ol.p mvi ?_
    refine Ol.p addi ?_
    refine Ol.p asi ?_
    refine Ol.nil ?_
    exact ⟨n - (k + 1), by omega, k + 1, rfl, by omega, ⟨rfl, rfl, rfl, rfl, rfl, trivial⟩, rfl⟩
  have hke : k = n := by
    have := ge_of_ h
    omega
  rw [show (boolsL n fun i => decide (i < k) && S0 i) = boolsL n S0 from boolsL_same fun i hi => by rw [hke, decide_eq_true hi, Bool.true_and]]
  refine Cd.exit (id := 0) ?_
  refine Cd.seq ?_
  refine Cd.region ?_
  refine Ol.p (ldw (cs := f.cells.toArray) ag_api_Func (i := 1) rfl rfl) ?_
  refine Ol.x (sp_call (vs := [f.val]) en_ref10_all (fun M w' hh => ref10_all_ct (hf.now hh) hfit (by omega))) ?_
  rintro _ _ ⟨_, rfl, A41, c41, rfl, rfl⟩
  refine Ol.p ass ?_
  refine Ol.nil ?_
  obtain ⟨E, hE⟩ : ∃ E, E = edges f.terms := ⟨_, rfl⟩
  rw [← hE] at hel ⊢
  obtain ⟨LE, hLE⟩ : ∃ LE, LE = [row (.slice A41 E.length c41) 58 3 E.length (edV E)] := ⟨_, rfl⟩
  refine Cd.keep (L' := [row (.slice (some ⟨gs, 0, none⟩) n n) 4 1 n (boolsL n S0), row (.slice A41 E.length c41) 58 3 E.length (edV E), blk g3 (.cells f.cells.toArray 25)]) (keep_count [] fun _ x => by simp only [List.set_cons_succ, List.set_cons_zero, List.count_append, List.count_cons, List.count_nil, List.cons_append, List.nil_append]; omega) ?_
  refine Cd.seq ?_
  refine Cd.seq ?_
  refine Cd.region ?_
  refine Ol.p asi ?_
  refine Ol.nil ?_
  refine Cd.block ?_   -- 2
  refine Cd.loop (fun m σ L => ∃ r : Nat, m = n - r ∧ r ≤ n ∧ Has σ [(2, .slice A2 nt.length c2), (3, .pointer (some ⟨g3, 0, none⟩)), (7, .slice (some ⟨gs, 0, none⟩) n n), (9, .slice A41 E.length c41), (10, .int .i64 r)] ∧ [row (.slice (some ⟨gs, 0, none⟩) n n) 4 1 n (boolsL n (iterF (qA (openQ nt) f.terms) r S0)), row (.slice A41 E.length c41) 58 3 E.length (edV E), blk g3 (.cells f.cells.toArray 25)] = L) (n := n) ⟨0, rfl, Nat.zero_le _, ⟨rfl, rfl, rfl, rfl, rfl, trivial⟩, rfl⟩ ?_
  rintro _ σ L ⟨r, rfl, hr, hs, rfl⟩
  refine Cd.has hs ?_
  clear hs
  obtain ⟨S, hS⟩ : ∃ S, S = iterF (qA (openQ nt) f.terms) r S0 := ⟨_, rfl⟩
  rw [← hS]
  refine Cd.seq ?_
  refine Cd.seq ?_
  refine Cd.region ?_
  refine Ol.p mvi ?_
  refine Ol.p (fdl fd_api_Func_1) ?_
  refine Ol.p (ld (v := .slice f.bA f.blocks.length f.bC) one_L_api_Block (Rd.blk (i := 2) rfl rfl)) ?_
  refine Ol.p (lens sl_L_api_Block) ?_
  refine Ol.p lsi ?_
  refine Ol.nil ?_
  rw [← hn]
  refine Cd.cond rfl (fun h => ?_) (fun h => ?_)   -- $46
  · have hlt := lt_of h
    refine Cd.skip ?_
    refine Cd.seq ?_
    refine Cd.block ?_   -- 3
    refine Cd.seq ?_
    refine Cd.region ?_
    refine Ol.p asi ?_
    refine Ol.nil ?_
    refine Cd.block ?_   -- 4
    refine Cd.loop (fun m σ L => ∃ q : Nat, m = E.length - q ∧ q ≤ E.length ∧ Has σ [(2, .slice A2 nt.length c2), (3, .pointer (some ⟨g3, 0, none⟩)), (7, .slice (some ⟨gs, 0, none⟩) n n), (9, .slice A41 E.length c41), (10, .int .i64 r), (11, .int .i64 q)] ∧ [row (.slice (some ⟨gs, 0, none⟩) n n) 4 1 n (boolsL n (qM (openQ nt) f.terms q S)), row (.slice A41 E.length c41) 58 3 E.length (edV E), blk g3 (.cells f.cells.toArray 25)] = L) (n := E.length) ⟨0, rfl, Nat.zero_le _, ⟨rfl, rfl, rfl, rfl, rfl, rfl, trivial⟩, rfl⟩ ?_
    rintro _ σ L ⟨q, rfl, hq, hs, rfl⟩
    refine Cd.has hs ?_
    clear hs
    obtain ⟨T, hT⟩ : ∃ T, T = qM (openQ nt) f.terms q S := ⟨_, rfl⟩
    rw [← hT]
    refine Cd.seq ?_
    refine Cd.seq ?_
    refine Cd.region ?_
    refine Ol.p mvi ?_
    refine Ol.p mvs ?_
    refine Ol.p (lens sl_L_api_Edge) ?_
    refine Ol.p lsi ?_
    refine Ol.nil ?_
    refine Cd.cond rfl (fun h => ?_) (fun h => ?_)   -- $52
    · have hlq := lt_of h
      obtain ⟨e, he⟩ : ∃ e, E[q]? = some e := ⟨_, List.getElem?_eq_getElem hlq⟩
      have hem : e ∈ edges f.terms := by rw [← hE]; exact List.mem_of_getElem? he
      obtain ⟨x1, x2, x3, x4⟩ := edge_to hcl hem
      rw [htl, ← hn] at x3 x4
      have hsrc : (e.src.toNat : Int) = e.src := by have := src_range hem; omega
      obtain ⟨et, het⟩ : ∃ et, et = e.to.toNat := ⟨_, rfl⟩
      obtain ⟨es, hes⟩ : ∃ es, es = e.src.toNat := ⟨_, rfl⟩
      rw [← het] at x1 x3
      rw [← hes] at hsrc x4
      have hto : (edV E)[q * 3 + 2]? = some (.int .i64 e.to) := edV_at he rfl
      have hsr : (edV E)[q * 3 + 0]? = some (.int .i64 e.src) := edV_at he rfl
      have hnext : qM (openQ nt) f.terms (q + 1) S = orB T et (T es && !nt.contains e.to) := by
        rw [qM_succ (by rw [← hE]; exact he), ← hT]
        unfold upQ openQ
        rw [← het, ← hes]
      refine Cd.skip ?_
      refine Cd.mid (fun σ' L' => Has σ' [(2, .slice A2 nt.length c2), (3, .pointer (some ⟨g3, 0, none⟩)), (7, .slice (some ⟨gs, 0, none⟩) n n), (9, .slice A41 E.length c41), (10, .int .i64 r), (11, .int .i64 q)] ∧ [row (.slice (some ⟨gs, 0, none⟩) n n) 4 1 n (boolsL n (qM (openQ nt) f.terms (q + 1) S)), row (.slice A41 E.length c41) 58 3 E.length (edV E), blk g3 (.cells f.cells.toArray 25)] = L') ?_ ?_
      · skip
        refine Cd.block ?_   -- 5
        refine Cd.mid (fun σ' L' => Has σ' [(2, .slice A2 nt.length c2), (3, .pointer (some ⟨g3, 0, none⟩)), (7, .slice (some ⟨gs, 0, none⟩) n n), (9, .slice A41 E.length c41), (10, .int .i64 r), (11, .int .i64 q), (72, .bool (T es && !nt.contains e.to))] ∧ [row (.slice (some ⟨gs, 0, none⟩) n n) 4 1 n (boolsL n T), row (.slice A41 E.length c41) 58 3 E.length (edV E), blk g3 (.cells f.cells.toArray 25)] = L') ?_ ?_
        · cases h8 : T es with
          | true =>
            refine Cd.region ?_
            refine Ol.p mvs ?_
            refine Ol.p mvs ?_
            refine Ol.p mvi ?_
            refine Ol.p (ixn (ix := q) sl_L_api_Edge (Som.row (i := 1) rfl (by omega))) ?_
            refine Ol.p (fdp fd_api_Edge_0) ?_
            refine Ol.p (ld (v := .int .i64 e.src) one_int (Rd.row (i := 1) rfl hsr)) ?_
            refine Ol.p (ixn1 (ix := es) sl_L_bool (Som.row (i := 0) rfl (by omega)) (hy := congrArg (Value.int .i64) hsrc.symm)) ?_
            refine Ol.p (ld (v := .bool true) one_bool (Rd.row (i := 0) rfl (by rw [boolsL_get x4, h8]))) ?_
            refine Ol.p mvb ?_
            refine Ol.gp rfl mvs ?_
            refine Ol.gp rfl mvs ?_
            refine Ol.gp rfl mvi ?_
            refine Ol.gp rfl (ixn (ix := q) sl_L_api_Edge (Som.row (i := 1) rfl (by omega))) ?_
            refine Ol.gp rfl (fdp fd_api_Edge_2) ?_
            refine Ol.gp rfl (ld (v := .int .i64 e.to) one_int (Rd.row (i := 1) rfl hto)) ?_
            refine Ol.gs rfl (cl (v := .bool (nt.contains e.to)) en_ref10_has (fun M w' hh => ref10_has_ct (hnt.now hh) (by omega))) ?_
            refine Ol.gp rfl noti ?_
            refine Ol.p (pkTb rfl) ?_
            refine Ol.nil ?_
            exact ⟨⟨rfl, rfl, rfl, rfl, rfl, rfl, rfl, trivial⟩, rfl⟩
          | false =>
            refine Cd.region ?_
            refine Ol.p mvs ?_
            refine Ol.p mvs ?_
            refine Ol.p mvi ?_
            refine Ol.p (ixn (ix := q) sl_L_api_Edge (Som.row (i := 1) rfl (by omega))) ?_
            refine Ol.p (fdp fd_api_Edge_0) ?_
            refine Ol.p (ld (v := .int .i64 e.src) one_int (Rd.row (i := 1) rfl hsr)) ?_
            refine Ol.p (ixn1 (ix := es) sl_L_bool (Som.row (i := 0) rfl (by omega)) (hy := congrArg (Value.int .i64) hsrc.symm)) ?_
            refine Ol.p (ld (v := .bool false) one_bool (Rd.row (i := 0) rfl (by rw [boolsL_get x4, h8]))) ?_
            refine Ol.p mvb ?_
            refine Ol.gn rfl ?_
            refine Ol.gn rfl ?_
            refine Ol.gn rfl ?_
            refine Ol.gn rfl ?_
            refine Ol.gn rfl ?_
            refine Ol.gn rfl ?_
            refine Ol.gn rfl ?_
            refine Ol.gn rfl ?_
            refine Ol.p (pkFb rfl) ?_
            refine Ol.nil ?_
            exact ⟨⟨rfl, rfl, rfl, rfl, rfl, rfl, rfl, trivial⟩, rfl⟩
        rintro σ' _ ⟨hs', rfl⟩
        refine Cd.has hs' ?_
        clear hs'
        rw [hnext]
        refine Cd.cond rfl (fun h => ?_) (fun h => ?_)   -- $72
        · have h : (T es && !nt.contains e.to) = true := h
          rw [h]
          refine Cd.region ?_
          refine Ol.p mvs ?_
          refine Ol.p mvs ?_
          refine Ol.p mvi ?_
          refine Ol.p (ixn (ix := q) sl_L_api_Edge (Som.row (i := 1) rfl (by omega))) ?_
          refine Ol.p (fdp fd_api_Edge_2) ?_
          refine Ol.p (ld (v := .int .i64 e.to) one_int (Rd.row (i := 1) rfl hto)) ?_
          refine Ol.p (ixn1 (ix := et) sl_L_bool (Som.row (i := 0) rfl (by omega)) (hy := congrArg (Value.int .i64) x1.symm)) ?_
          refine Ol.s (str (i := 0) (k := et) (v := .bool true) sz_bool rfl rfl rfl (by rw [boolsL_len]; exact x3) rfl) ?_
          refine Ol.nil ?_
          refine ⟨⟨rfl, rfl, rfl, rfl, rfl, rfl, trivial⟩, ?_⟩
          show [row _ _ _ _ _, row _ _ _ _ _, _] = [row _ _ _ _ ((boolsL n T).set et (.bool true)), row _ _ _ _ _, _]
          rw [boolsL_put]
          congr 2
          exact boolsL_same fun i _ => by
            unfold orB
            by_cases hi : i = et
            · simp [hi]
            · simp [hi]
        have h : (T es && !nt.contains e.to) = false := h
        rw [h]
        refine Cd.skip ?_
        refine ⟨⟨rfl, rfl, rfl, rfl, rfl, rfl, trivial⟩, ?_⟩
        rw [show boolsL n (orB T et false) = boolsL n T from boolsL_same fun i _ => by
          unfold orB
          by_cases hi : i = et
          · simp [hi]
          · simp [hi]]
      rintro σ' _ ⟨hs', rfl⟩
      refine Cd.has hs' ?_
      refine Cd.region ?_
      refine Ol.p mvi ?_
      refine Ol.p addi ?_
      refine Ol.p asi ?_
      refine Ol.nil ?_
      exact ⟨E.length - (q + 1), by omega, q + 1, rfl, by omega, ⟨rfl, rfl, rfl, rfl, rfl, rfl, trivial⟩, rfl⟩
    have hqe : q = E.length := by
      have := ge_of_ h
      omega
    refine Cd.exit (id := 4) ?_
    refine Cd.region ?_
    refine Ol.p mvi ?_
    refine Ol.p addi ?_
    refine Ol.p asi ?_
    refine Ol.nil ?_
    refine ⟨n - (r + 1), by omega, r + 1, rfl, by omega, ⟨rfl, rfl, rfl, rfl, rfl, trivial⟩, ?_⟩
    have : iterF (qA (openQ nt) f.terms) (r + 1) S0 = T := by
      show qA (openQ nt) f.terms (iterF (qA (openQ nt) f.terms) r S0) = T
      rw [← hS, hT, hqe, hE]
      rfl
    rw [this]
  have hre : r = n := by
    have := ge_of_ h
    omega
  have hSK : S = K := by rw [hS, hK, hre]
  rw [hSK]
  refine Cd.exit (id := 2) ?_
  refine Cd.keep (L' := [row (.slice (some ⟨gs, 0, none⟩) n n) 4 1 n (boolsL n K)]) (.sub (.cons_cons _ (List.nil_sublist _))) ?_
  refine Cd.nr 3 1 ?_
  refine Cd.seq ?_
  refine Cd.region ?_
  refine Ol.p ass ?_
  refine Ol.nil ?_
  refine Cd.seq ?_
  refine Cd.seq ?_
  refine Cd.region ?_
  refine Ol.p asi ?_
  refine Ol.nil ?_
  refine Cd.block ?_   -- 6
  refine Cd.loop (fun m σ L => ∃ (k : Nat) (A : Option Addr) (c l : Nat), m = n - k ∧ k ≤ n ∧ l = ((List.range k).filter K).length ∧ Has σ [(7, .slice (some ⟨gs, 0, none⟩) n n), (12, .slice A l c), (13, .int .i64 k)] ∧ [row (.slice A l c) 3 1 l (intsN ((List.range k).filter K)), row (.slice (some ⟨gs, 0, none⟩) n n) 4 1 n (boolsL n K)] = L) (n := n) ⟨0, none, 0, 0, rfl, Nat.zero_le _, rfl, ⟨rfl, rfl, rfl, trivial⟩, rfl⟩ ?_
  rintro _ σ L ⟨k, A, c, l, rfl, hk2, hl, hs, rfl⟩
  refine Cd.has hs ?_
  clear hs
  refine Cd.seq ?_
  refine Cd.seq ?_
  refine Cd.region ?_
  refine Ol.p mvi ?_
  refine Ol.p mvs ?_
  refine Ol.p (lens sl_L_bool) ?_
  refine Ol.p lsi ?_
  refine Ol.nil ?_
  refine Cd.cond rfl (fun h => ?_) (fun h => ?_)   -- $83
  · have hlt := lt_of h
    have hlk : l ≤ k := by
      rw [hl]
      refine Nat.le_trans (List.length_filter_le _ _) ?_
      rw [List.length_range]
      exact Nat.le_refl _
    refine Cd.skip ?_
    refine Cd.mid (fun σ' L' => ∃ (A : Option Addr) (c l : Nat), l = ((List.range (k + 1)).filter K).length ∧ Has σ' [(7, .slice (some ⟨gs, 0, none⟩) n n), (12, .slice A l c), (13, .int .i64 k)] ∧ [row (.slice A l c) 3 1 l (intsN ((List.range (k + 1)).filter K)), row (.slice (some ⟨gs, 0, none⟩) n n) 4 1 n (boolsL n K)] = L') ?_ ?_
    · skip
      refine Cd.block ?_   -- 7
      refine Cd.seq ?_
      refine Cd.region ?_
      refine Ol.p mvs ?_
      refine Ol.p mvi ?_
      refine Ol.p (ixn1 (ix := k) sl_L_bool (Som.row (i := 1) rfl (by omega))) ?_
      refine Ol.p (ld (v := .bool (K k)) one_bool (Rd.row (i := 1) rfl (boolsL_get hlt))) ?_
      refine Ol.nil ?_
      refine Cd.cond rfl (fun h => ?_) (fun h => ?_)   -- $89
      · have h : K k = true := h
        refine Cd.region ?_
        refine Ol.p mvs ?_
        refine Ol.p mvi ?_
        refine Ol.x (bsv [.int .i64 (k : Int)] sl_L_int zr_int (by simp [Value.cells])) ?_
        rintro _ _ ⟨g92, rfl, rfl⟩
        refine Ol.x (apn (i := 1) (n := l) (m := 1) sl_L_int zr_int rfl (by decide) rfl (Src.row (i := 0) rfl rfl) (by intro u hu; simp at hu; subst hu; rfl) (by unfold maxLen; omega) (by omega)) ?_
        rintro _ _ ⟨A93, c93, rfl, rfl⟩
        refine Ol.p ass ?_
        refine Ol.keep (.sub (.cons _ (List.Sublist.refl _))) ?_
        refine Ol.nil ?_
        refine ⟨A93, c93, l + 1, ?_, ⟨rfl, rfl, rfl, trivial⟩, ?_⟩
        · rw [range_snoc, if_pos h, List.length_append, ← hl]; rfl
        · rw [range_snoc, if_pos h, show intsN ((List.range k).filter K ++ [k]) = intsN ((List.range k).filter K) ++ [.int .i64 (k : Int)] by simp [intsN]]
          rfl
      have h : K k = false := h
      refine Cd.skip ?_
      refine ⟨A, c, l, ?_, ⟨rfl, rfl, rfl, trivial⟩, ?_⟩
      · rw [range_snoc, if_neg (by rw [h]; simp), List.append_nil]; exact hl
      · rw [range_snoc, if_neg (by rw [h]; simp), List.append_nil]
    rintro σ' _ ⟨A', c', l', hl', hs', rfl⟩
    refine Cd.has hs' ?_
    refine Cd.region ?_
    refine Ol.p mvi ?_
    refine Ol.p addi ?_
    refine Ol.p asi ?_
    refine Ol.nil ?_
    exact ⟨n - (k + 1), by omega, k + 1, A', c', l', rfl, by omega, hl', ⟨rfl, rfl, rfl, trivial⟩, rfl⟩
  have hke2 : k = n := by
    have := ge_of_ h
    omega
  refine Cd.exit (id := 6) ?_
  refine Cd.seq ?_
  refine Cd.region ?_
  refine Ol.p mvs ?_
  refine Ol.p ass ?_
  refine Ol.nil ?_
  rw [hke2] at hl ⊢
  rw [← hl]
  exact Cd.ret ⟨.slice A l c, ret1 rfl rfl, _, .sub (.cons_cons _ (List.nil_sublist _)), A, c, rfl, rfl⟩
end
end Go.Proofs.YtkefmjhagmacfaaGreatDoor

/- append onto a slice in a block of one's own: in its room, or in a new block, the old one stays. Over any program. -/
namespace Go.Proofs.YtkefmjhagmacfaaGreatDoor
set_option linter.unusedVariables false
open Go Go.RowKit

def Keepq (i e g o n m c : Nat) (cs : Array Value) (xs ys : List Value) (L : List Res) : Value → List Res → Prop := fun v L' =>
  (∃ cs' : Array Value, n + m ≤ c ∧ v = .slice (some ⟨g, o, none⟩) (n + m) c ∧ L' = L.set i (blk g (.cells cs' e)) ∧ cs'.size = cs.size ∧ (∀ j : Nat, j < n → cs'[o + j]? = cs[o + j]?) ∧ (∀ (j : Nat) (u : Value), ys[j]? = some u → cs'[o + (n + j)]? = some u)) ∨
  (∃ A' c', v = .slice A' (n + m) c' ∧ L' = row (.slice A' (n + m) c') e 1 (n + m) (xs ++ ys) :: L)
section
variable {P : Program} {w0 : World} {B : Nat} {σ : Env} {L : List Res} {d : Option Nat} {ty T : TypeId} {pos : String} {af : Array Edge} {gd : Option (Nat × Bool)} {x y : Operand}
theorem apk {i g o n c b m c2 e : Nat} {A2 : Option Addr} {cs : Array Value} {xs ys : List Value} {zv : Value} (hT : SlT P T e 1 b) (hz : ZrT P e zv) (hzs : zv.cells.size = 1) (hi : L[i]? = some (blk g (.cells cs e))) (hsz : o + c ≤ cs.size) (hnc : n ≤ c) (hxl : xs.length = n)
    (hold : ∀ (j : Nat) (u : Value), xs[j]? = some u → cs[o + j]? = some u) (hm : 0 < m) (hsrc : Src w0 B L A2 m 1 ys) (h1 : ∀ u ∈ ys, u.oneCell' = true) (hml : n + m ≤ maxLen) (hby : (n + m) * b ≤ 140737488355328) (hx : ev σ x = .slice (some ⟨g, o, none⟩) n c := by exact rfl) (hy : ev σ y = .slice A2 m c2 := by exact rfl) :
    Sp P w0 B ⟨d, .call { callee := .builtin .append, args := #[x, y], argTypes := #[T, T] }, ty, pos, af, gd⟩ σ L (Keepq i e g o n m c cs xs ys L) := fun M w hh => by
  obtain ⟨inf, hi1, he⟩ := info_of hT.2
  simp only [Prod.mk.injEq] at he
  obtain ⟨i2, hi2, hz2⟩ := info_of hz
  rw [hi1] at hi2
  cases hi2
  have hg : w.heap[g]? = some (.cells cs e (0, 0)) := hh.at_ hi
  have hyl : ys.length = m := by have := hsrc.1; omega
  rcases hsrc.2 M w hh with ⟨_, h0⟩ | ⟨a, rfl, hc⟩
  · omega
  · by_cases hroom : n + m ≤ c
    · have hfc := run_firstCells_some (P := P) w inf.size m a m c2 ys (by rw [he.1]; exact hsrc.1) hc
      obtain ⟨w', hst, hstp, hg'⟩ := run_storeCells_all (P := P) (g := g) (e := e) ys (o + n * inf.size) 0 cs w hg (by rw [he.1]; omega) h1
      simp only [Nat.add_zero] at hst hg'
      have hrun : (Builtin.append_ #[T, T] ty #[.slice (some ⟨g, o, none⟩) n c, .slice (some a) m c2]).run P w = .ok (.slice (some ⟨g, o, none⟩) (n + m) c) w' := by
        simp [Builtin.append_, run_underlying hT.1, sizeOf, typeInfo, hi1, Builtin.lenOf, hroom, hfc, Addr.add_lit, hst]
      refine .inl ⟨_, w', ?_, _, hh.set (r' := blk g (.cells _ e)) hi hstp hg' (fun k hk => .inl hk), .inl ⟨_, hroom, rfl, rfl, ?_, ?_, ?_⟩⟩
      · simp [execOp, hx, hy, resolve, invoke, builtin, hrun]
      · simp only [List.size_toArray, List.length_append, List.length_take, List.length_drop, Array.length_toList, he.1]
        omega
      · intro j hj
        simp only [he.1, Nat.mul_one, List.getElem?_toArray]
        have htl : (cs.toList.take (o + n)).length = o + n := by simp; omega
        rw [List.append_assoc, List.getElem?_append_left (by omega), List.getElem?_take, if_pos (by omega), Array.getElem?_toList]
      · intro j u hu
        simp only [he.1, Nat.mul_one, List.getElem?_toArray]
        have htl : (cs.toList.take (o + n)).length = o + n := by simp; omega
        have hjl := (List.getElem?_eq_some_iff.1 hu).1
        rw [List.append_assoc, List.getElem?_append_right (by omega), htl, List.getElem?_append_left (by omega), show o + (n + j) - (o + n) = j by omega]
        exact hu
    · have holds : ∀ j u, xs[j]? = some u → w.cell? ((⟨g, o, none⟩ : Addr).add j) = some u := fun j u hu => by
        rw [Addr.add_lit, cell_of_row w g (o + j) cs e (0, 0) hg]
        exact hold j u hu
      obtain ⟨v', w', hr, hown, hgr⟩ := run_append_arg_grows (P := P) w T ty e inf zv 1 b hT.1 hi1 hz2 he.1 he.2 hzs (by decide) ⟨g, o, none⟩ n c xs (by omega) holds a m c2 ys hsrc.1 hc (by omega) hml hby
      have hstp : Stp nil_ w w' := (Stp.of_grown hgr).mono (fun k _ hk => by cases hk)
      rcases hown.2 with ⟨rfl, h0⟩ | ⟨g', cap, cur, rfl, hb', hg', hnc', hcm, hcs, htake⟩
      · omega
      · refine .inl ⟨_, w', ?_, _, hh.add (T := [row (.slice (some ⟨g', 0, none⟩) (n + m) cap) e 1 (n + m) (xs ++ ys)]) hstp ?_ ?_ (by simp), .inr ⟨_, _, rfl, rfl⟩⟩
        · simp [execOp, hx, hy, resolve, invoke, builtin, hr]
        · intro r hr'
          simp only [List.mem_singleton] at hr'
          subst hr'
          exact ⟨hown.1, .inr ⟨g', cap, cur, rfl, Nat.zero_le _, hg', hnc', hcm, hcs, htake⟩⟩
        · intro r hr' k hk
          simp only [List.mem_singleton] at hr'
          subst hr'
          have h1 : g' = k := by simpa [row, Value.ownBlock] using hk
          have h2 := (Array.getElem?_eq_some_iff.1 hg').1
          exact ⟨by omega, by omega⟩
end
end Go.Proofs.YtkefmjhagmacfaaGreatDoor

/- Functions told by what they hold, not where: plain laws. -/
namespace Go.Proofs.YtkefmjhagmacfaaGreatDoor
set_option linter.unusedVariables false
open Go Go.RowKit

def RIns.bare (i : RIns) : RIns := { i with aA := none, aC := 0 }
def RBlk.bare (b : RBlk) : RBlk := { b with iA := none, iC := 0, ins := b.ins.map RIns.bare }
def RFun.bare (f : RFun) : RFun := { f with pA := none, pC := 0, bA := none, bC := 0, blocks := f.blocks.map RBlk.bare }
end Go.Proofs.YtkefmjhagmacfaaGreatDoor

/- The kit: functions are compared, walked. -/
namespace Go.Proofs.YtkefmjhagmacfaaGreatDoor
set_option linter.unusedVariables false
open Go Go.RowKit
set_option maxRecDepth 100000

noncomputable instance : DecidableEq RIns := fun _ _ => Classical.propDecidable _
noncomputable instance : DecidableEq RBlk := fun _ _ => Classical.propDecidable _
noncomputable instance : DecidableEq RFun := fun _ _ => Classical.propDecidable _
section
set_option maxHeartbeats 4000000 in
theorem kit_SameIns_ct {w : World} {a b : RIns} (ha : Reads w w.heap.size 1 a.aA a.args.length (ints a.args)) (hb : Reads w w.heap.size 1 b.aA b.args.length (ints b.args)) (hal : a.args.length < 2 ^ 60) (hbl : b.args.length < 2 ^ 60) : Ct Tryz.prog 120 #[a.val, b.val] w (Is (.bool (decide (a.bare = b.bare)))) := by
  refine Ct.mk Tryz.func120 rfl rfl ?_
  refine Cd.seq ?_
  refine Cd.region ?_
  refine Ol.x bxg ?_
  rintro _ _ ⟨g2, rfl, rfl⟩
  refine Ol.x bxg ?_
  rintro _ _ ⟨g3, rfl, rfl⟩
  refine Ol.p asb ?_
  refine Ol.nil ?_
  refine Cd.seq ?_
  cases h0 : decide (a.op = b.op) with
  | true =>
    cases h1 : decide (a.dst = b.dst) with
    | true =>
      cases h2 : decide (a.a = b.a) with
      | true =>
        cases h3 : decide (a.b = b.b) with
        | true =>
          cases h4 : decide (a.imm = b.imm) with
          | true =>
            cases h5 : decide (a.callee = b.callee) with
            | true =>
              cases h6 : decide (a.args = b.args) with
              | true =>
                refine Cd.region ?_
                refine Ol.p (fdl fd_api_Ins_0) ?_
                refine Ol.p (ld (v := .int .i64 a.op) one_api_Op (Rd.blk (i := 1) rfl rfl)) ?_
                refine Ol.p (fdl fd_api_Ins_0) ?_
                refine Ol.p (ld (v := .int .i64 b.op) one_api_Op (Rd.blk (i := 0) rfl rfl)) ?_
                refine Ol.p eqi ?_
                refine Ol.p mvb ?_
                refine Ol.gp h0 (fdl fd_api_Ins_1) ?_
                refine Ol.gp h0 (ld (v := .int .i64 a.dst) one_int (Rd.blk (i := 1) rfl rfl)) ?_
                refine Ol.gp h0 (fdl fd_api_Ins_1) ?_
                refine Ol.gp h0 (ld (v := .int .i64 b.dst) one_int (Rd.blk (i := 0) rfl rfl)) ?_
                refine Ol.gp h0 eqi ?_
                refine Ol.p (pkTb h0) ?_
                refine Ol.p mvb ?_
                refine Ol.gp h1 (fdl fd_api_Ins_2) ?_
                refine Ol.gp h1 (ld (v := .int .i64 a.a) one_int (Rd.blk (i := 1) rfl rfl)) ?_
                refine Ol.gp h1 (fdl fd_api_Ins_2) ?_
                refine Ol.gp h1 (ld (v := .int .i64 b.a) one_int (Rd.blk (i := 0) rfl rfl)) ?_
                refine Ol.gp h1 eqi ?_
                refine Ol.p (pkTb h1) ?_
                refine Ol.p mvb ?_
                refine Ol.gp h2 (fdl fd_api_Ins_3) ?_
                refine Ol.gp h2 (ld (v := .int .i64 a.b) one_int (Rd.blk (i := 1) rfl rfl)) ?_
                refine Ol.gp h2 (fdl fd_api_Ins_3) ?_
                refine Ol.gp h2 (ld (v := .int .i64 b.b) one_int (Rd.blk (i := 0) rfl rfl)) ?_
                refine Ol.gp h2 eqi ?_
                refine Ol.p (pkTb h2) ?_
                refine Ol.p mvb ?_
                refine Ol.gp h3 (fdl fd_api_Ins_4) ?_
                refine Ol.gp h3 (ld (v := .int .i64 a.imm) one_int (Rd.blk (i := 1) rfl rfl)) ?_
                refine Ol.gp h3 (fdl fd_api_Ins_4) ?_
                refine Ol.gp h3 (ld (v := .int .i64 b.imm) one_int (Rd.blk (i := 0) rfl rfl)) ?_
                refine Ol.gp h3 eqi ?_
                refine Ol.p (pkTb h3) ?_
                refine Ol.p mvb ?_
                refine Ol.gp h4 (fdl fd_api_Ins_5) ?_
                refine Ol.gp h4 (ld (v := .int .i64 a.callee) one_int (Rd.blk (i := 1) rfl rfl)) ?_
                refine Ol.gp h4 (fdl fd_api_Ins_5) ?_
                refine Ol.gp h4 (ld (v := .int .i64 b.callee) one_int (Rd.blk (i := 0) rfl rfl)) ?_
                refine Ol.gp h4 eqi ?_
                refine Ol.p (pkTb h4) ?_
                refine Ol.p mvb ?_
                refine Ol.gp h5 (fdl fd_api_Ins_6) ?_
                refine Ol.gp h5 (ld (v := .slice a.aA a.args.length a.aC) one_L_int (Rd.blk (i := 1) rfl rfl)) ?_
                refine Ol.gp h5 (fdl fd_api_Ins_6) ?_
                refine Ol.gp h5 (ld (v := .slice b.aA b.args.length b.aC) one_L_int (Rd.blk (i := 0) rfl rfl)) ?_
                refine Ol.gs h5 (cl en_kit_SameInts (fun M w' hh => kit_SameInts_ct (ha.now hh) (hb.now hh) (by omega) (by omega))) ?_
                refine Ol.p (pkTb h5) ?_
                refine Ol.p mvb ?_
                refine Ol.gp h6 (fdl fd_api_Ins_7) ?_
                refine Ol.gp h6 (ld (v := .int .i64 a.many) one_int (Rd.blk (i := 1) rfl rfl)) ?_
                refine Ol.gp h6 (fdl fd_api_Ins_7) ?_
                refine Ol.gp h6 (ld (v := .int .i64 b.many) one_int (Rd.blk (i := 0) rfl rfl)) ?_
                refine Ol.gp h6 eqi ?_
                refine Ol.p (pkTb h6) ?_
                refine Ol.p asb ?_
                refine Ol.nil ?_
                refine Cd.ret ⟨.bool _, ret1 rfl rfl, [], Keep.nil, congrArg Value.bool ?_, rfl⟩
                have q0 := of_decide_eq_true h0
                have q1 := of_decide_eq_true h1
                have q2 := of_decide_eq_true h2
                have q3 := of_decide_eq_true h3
                have q4 := of_decide_eq_true h4
                have q5 := of_decide_eq_true h5
                have q6 := of_decide_eq_true h6
                rw [decide_eq_decide]
                unfold RIns.bare
                simp [q0, q1, q2, q3, q4, q5, q6]
              | false =>
                refine Cd.region ?_
                refine Ol.p (fdl fd_api_Ins_0) ?_
                refine Ol.p (ld (v := .int .i64 a.op) one_api_Op (Rd.blk (i := 1) rfl rfl)) ?_
                refine Ol.p (fdl fd_api_Ins_0) ?_
                refine Ol.p (ld (v := .int .i64 b.op) one_api_Op (Rd.blk (i := 0) rfl rfl)) ?_
                refine Ol.p eqi ?_
                refine Ol.p mvb ?_
                refine Ol.gp h0 (fdl fd_api_Ins_1) ?_
                refine Ol.gp h0 (ld (v := .int .i64 a.dst) one_int (Rd.blk (i := 1) rfl rfl)) ?_
                refine Ol.gp h0 (fdl fd_api_Ins_1) ?_
                refine Ol.gp h0 (ld (v := .int .i64 b.dst) one_int (Rd.blk (i := 0) rfl rfl)) ?_
                refine Ol.gp h0 eqi ?_
                refine Ol.p (pkTb h0) ?_
                refine Ol.p mvb ?_
                refine Ol.gp h1 (fdl fd_api_Ins_2) ?_
                refine Ol.gp h1 (ld (v := .int .i64 a.a) one_int (Rd.blk (i := 1) rfl rfl)) ?_
                refine Ol.gp h1 (fdl fd_api_Ins_2) ?_
                refine Ol.gp h1 (ld (v := .int .i64 b.a) one_int (Rd.blk (i := 0) rfl rfl)) ?_
                refine Ol.gp h1 eqi ?_
                refine Ol.p (pkTb h1) ?_
                refine Ol.p mvb ?_
                refine Ol.gp h2 (fdl fd_api_Ins_3) ?_
                refine Ol.gp h2 (ld (v := .int .i64 a.b) one_int (Rd.blk (i := 1) rfl rfl)) ?_
                refine Ol.gp h2 (fdl fd_api_Ins_3) ?_
                refine Ol.gp h2 (ld (v := .int .i64 b.b) one_int (Rd.blk (i := 0) rfl rfl)) ?_
                refine Ol.gp h2 eqi ?_
                refine Ol.p (pkTb h2) ?_
                refine Ol.p mvb ?_
                refine Ol.gp h3 (fdl fd_api_Ins_4) ?_
                refine Ol.gp h3 (ld (v := .int .i64 a.imm) one_int (Rd.blk (i := 1) rfl rfl)) ?_
                refine Ol.gp h3 (fdl fd_api_Ins_4) ?_
                refine Ol.gp h3 (ld (v := .int .i64 b.imm) one_int (Rd.blk (i := 0) rfl rfl)) ?_
                refine Ol.gp h3 eqi ?_
                refine Ol.p (pkTb h3) ?_
                refine Ol.p mvb ?_
                refine Ol.gp h4 (fdl fd_api_Ins_5) ?_
                refine Ol.gp h4 (ld (v := .int .i64 a.callee) one_int (Rd.blk (i := 1) rfl rfl)) ?_
                refine Ol.gp h4 (fdl fd_api_Ins_5) ?_
                refine Ol.gp h4 (ld (v := .int .i64 b.callee) one_int (Rd.blk (i := 0) rfl rfl)) ?_
                refine Ol.gp h4 eqi ?_
                refine Ol.p (pkTb h4) ?_
                refine Ol.p mvb ?_
                refine Ol.gp h5 (fdl fd_api_Ins_6) ?_
                refine Ol.gp h5 (ld (v := .slice a.aA a.args.length a.aC) one_L_int (Rd.blk (i := 1) rfl rfl)) ?_
                refine Ol.gp h5 (fdl fd_api_Ins_6) ?_
                refine Ol.gp h5 (ld (v := .slice b.aA b.args.length b.aC) one_L_int (Rd.blk (i := 0) rfl rfl)) ?_
                refine Ol.gs h5 (cl en_kit_SameInts (fun M w' hh => kit_SameInts_ct (ha.now hh) (hb.now hh) (by omega) (by omega))) ?_
                refine Ol.p (pkTb h5) ?_
                refine Ol.p mvb ?_
                refine Ol.gn h6 ?_
                refine Ol.gn h6 ?_
                refine Ol.gn h6 ?_
                refine Ol.gn h6 ?_
                refine Ol.gn h6 ?_
                refine Ol.p (pkFb h6) ?_
                refine Ol.p asb ?_
                refine Ol.nil ?_
                refine Cd.ret ⟨.bool false, ret1 rfl rfl, [], Keep.nil, congrArg Value.bool ?_, rfl⟩
                exact (decide_eq_false fun e => of_decide_eq_false h6 (congrArg RIns.args e : a.bare.args = b.bare.args)).symm
            | false =>
              refine Cd.region ?_
              refine Ol.p (fdl fd_api_Ins_0) ?_
              refine Ol.p (ld (v := .int .i64 a.op) one_api_Op (Rd.blk (i := 1) rfl rfl)) ?_
              refine Ol.p (fdl fd_api_Ins_0) ?_
              refine Ol.p (ld (v := .int .i64 b.op) one_api_Op (Rd.blk (i := 0) rfl rfl)) ?_
              refine Ol.p eqi ?_
              refine Ol.p mvb ?_
              refine Ol.gp h0 (fdl fd_api_Ins_1) ?_
              refine Ol.gp h0 (ld (v := .int .i64 a.dst) one_int (Rd.blk (i := 1) rfl rfl)) ?_
              refine Ol.gp h0 (fdl fd_api_Ins_1) ?_
              refine Ol.gp h0 (ld (v := .int .i64 b.dst) one_int (Rd.blk (i := 0) rfl rfl)) ?_
              refine Ol.gp h0 eqi ?_
              refine Ol.p (pkTb h0) ?_
              refine Ol.p mvb ?_
              refine Ol.gp h1 (fdl fd_api_Ins_2) ?_
              refine Ol.gp h1 (ld (v := .int .i64 a.a) one_int (Rd.blk (i := 1) rfl rfl)) ?_
              refine Ol.gp h1 (fdl fd_api_Ins_2) ?_
              refine Ol.gp h1 (ld (v := .int .i64 b.a) one_int (Rd.blk (i := 0) rfl rfl)) ?_
              refine Ol.gp h1 eqi ?_
              refine Ol.p (pkTb h1) ?_
              refine Ol.p mvb ?_
              refine Ol.gp h2 (fdl fd_api_Ins_3) ?_
              refine Ol.gp h2 (ld (v := .int .i64 a.b) one_int (Rd.blk (i := 1) rfl rfl)) ?_
              refine Ol.gp h2 (fdl fd_api_Ins_3) ?_
              refine Ol.gp h2 (ld (v := .int .i64 b.b) one_int (Rd.blk (i := 0) rfl rfl)) ?_
              refine Ol.gp h2 eqi ?_
              refine Ol.p (pkTb h2) ?_
              refine Ol.p mvb ?_
              refine Ol.gp h3 (fdl fd_api_Ins_4) ?_
              refine Ol.gp h3 (ld (v := .int .i64 a.imm) one_int (Rd.blk (i := 1) rfl rfl)) ?_
              refine Ol.gp h3 (fdl fd_api_Ins_4) ?_
              refine Ol.gp h3 (ld (v := .int .i64 b.imm) one_int (Rd.blk (i := 0) rfl rfl)) ?_
              refine Ol.gp h3 eqi ?_
              refine Ol.p (pkTb h3) ?_
              refine Ol.p mvb ?_
              refine Ol.gp h4 (fdl fd_api_Ins_5) ?_
              refine Ol.gp h4 (ld (v := .int .i64 a.callee) one_int (Rd.blk (i := 1) rfl rfl)) ?_
              refine Ol.gp h4 (fdl fd_api_Ins_5) ?_
              refine Ol.gp h4 (ld (v := .int .i64 b.callee) one_int (Rd.blk (i := 0) rfl rfl)) ?_
              refine Ol.gp h4 eqi ?_
              refine Ol.p (pkTb h4) ?_
              refine Ol.p mvb ?_
              refine Ol.gn h5 ?_
              refine Ol.gn h5 ?_
              refine Ol.gn h5 ?_
              refine Ol.gn h5 ?_
              refine Ol.gn h5 ?_
              refine Ol.p (pkFb h5) ?_
              refine Ol.p mvb ?_
              refine Ol.gn rfl ?_
              refine Ol.gn rfl ?_
              refine Ol.gn rfl ?_
              refine Ol.gn rfl ?_
              refine Ol.gn rfl ?_
              refine Ol.p (pkFb rfl) ?_
              refine Ol.p asb ?_
              refine Ol.nil ?_
              refine Cd.ret ⟨.bool false, ret1 rfl rfl, [], Keep.nil, congrArg Value.bool ?_, rfl⟩
              exact (decide_eq_false fun e => of_decide_eq_false h5 (congrArg RIns.callee e : a.bare.callee = b.bare.callee)).symm
          | false =>
            refine Cd.region ?_
            refine Ol.p (fdl fd_api_Ins_0) ?_
            refine Ol.p (ld (v := .int .i64 a.op) one_api_Op (Rd.blk (i := 1) rfl rfl)) ?_
            refine Ol.p (fdl fd_api_Ins_0) ?_
            refine Ol.p (ld (v := .int .i64 b.op) one_api_Op (Rd.blk (i := 0) rfl rfl)) ?_
            refine Ol.p eqi ?_
            refine Ol.p mvb ?_
            refine Ol.gp h0 (fdl fd_api_Ins_1) ?_
            refine Ol.gp h0 (ld (v := .int .i64 a.dst) one_int (Rd.blk (i := 1) rfl rfl)) ?_
            refine Ol.gp h0 (fdl fd_api_Ins_1) ?_
            refine Ol.gp h0 (ld (v := .int .i64 b.dst) one_int (Rd.blk (i := 0) rfl rfl)) ?_
            refine Ol.gp h0 eqi ?_
            refine Ol.p (pkTb h0) ?_
            refine Ol.p mvb ?_
            refine Ol.gp h1 (fdl fd_api_Ins_2) ?_
            refine Ol.gp h1 (ld (v := .int .i64 a.a) one_int (Rd.blk (i := 1) rfl rfl)) ?_
            refine Ol.gp h1 (fdl fd_api_Ins_2) ?_
            refine Ol.gp h1 (ld (v := .int .i64 b.a) one_int (Rd.blk (i := 0) rfl rfl)) ?_
            refine Ol.gp h1 eqi ?_
            refine Ol.p (pkTb h1) ?_
            refine Ol.p mvb ?_
            refine Ol.gp h2 (fdl fd_api_Ins_3) ?_
            refine Ol.gp h2 (ld (v := .int .i64 a.b) one_int (Rd.blk (i := 1) rfl rfl)) ?_
            refine Ol.gp h2 (fdl fd_api_Ins_3) ?_
            refine Ol.gp h2 (ld (v := .int .i64 b.b) one_int (Rd.blk (i := 0) rfl rfl)) ?_
            refine Ol.gp h2 eqi ?_
            refine Ol.p (pkTb h2) ?_
            refine Ol.p mvb ?_
            refine Ol.gp h3 (fdl fd_api_Ins_4) ?_
            refine Ol.gp h3 (ld (v := .int .i64 a.imm) one_int (Rd.blk (i := 1) rfl rfl)) ?_
            refine Ol.gp h3 (fdl fd_api_Ins_4) ?_
            refine Ol.gp h3 (ld (v := .int .i64 b.imm) one_int (Rd.blk (i := 0) rfl rfl)) ?_
            refine Ol.gp h3 eqi ?_
            refine Ol.p (pkTb h3) ?_
            refine Ol.p mvb ?_
            refine Ol.gn h4 ?_
            refine Ol.gn h4 ?_
            refine Ol.gn h4 ?_
            refine Ol.gn h4 ?_
            refine Ol.gn h4 ?_
            refine Ol.p (pkFb h4) ?_
            refine Ol.p mvb ?_
            refine Ol.gn rfl ?_
            refine Ol.gn rfl ?_
            refine Ol.gn rfl ?_
            refine Ol.gn rfl ?_
            refine Ol.gn rfl ?_
            refine Ol.p (pkFb rfl) ?_
            refine Ol.p mvb ?_
            refine Ol.gn rfl ?_
            refine Ol.gn rfl ?_
            refine Ol.gn rfl ?_
            refine Ol.gn rfl ?_
            refine Ol.gn rfl ?_
            refine Ol.p (pkFb rfl) ?_
            refine Ol.p asb ?_
            refine Ol.nil ?_
            refine Cd.ret ⟨.bool false, ret1 rfl rfl, [], Keep.nil, congrArg Value.bool ?_, rfl⟩
            exact (decide_eq_false fun e => of_decide_eq_false h4 (congrArg RIns.imm e : a.bare.imm = b.bare.imm)).symm
        | false =>
          refine Cd.region ?_
          refine Ol.p (fdl fd_api_Ins_0) ?_
          refine Ol.p (ld (v := .int .i64 a.op) one_api_Op (Rd.blk (i := 1) rfl rfl)) ?_
          refine Ol.p (fdl fd_api_Ins_0) ?_
          refine Ol.p (ld (v := .int .i64 b.op) one_api_Op (Rd.blk (i := 0) rfl rfl)) ?_
          refine Ol.p eqi ?_
          refine Ol.p mvb ?_
          refine Ol.gp h0 (fdl fd_api_Ins_1) ?_
          refine Ol.gp h0 (ld (v := .int .i64 a.dst) one_int (Rd.blk (i := 1) rfl rfl)) ?_
          refine Ol.gp h0 (fdl fd_api_Ins_1) ?_
          refine Ol.gp h0 (ld (v := .int .i64 b.dst) one_int (Rd.blk (i := 0) rfl rfl)) ?_
          refine Ol.gp h0 eqi ?_
          refine Ol.p (pkTb h0) ?_
          refine Ol.p mvb ?_
          refine Ol.gp h1 (fdl fd_api_Ins_2) ?_
          refine Ol.gp h1 (ld (v := .int .i64 a.a) one_int (Rd.blk (i := 1) rfl rfl)) ?_
          refine Ol.gp h1 (fdl fd_api_Ins_2) ?_
          refine Ol.gp h1 (ld (v := .int .i64 b.a) one_int (Rd.blk (i := 0) rfl rfl)) ?_
          refine Ol.gp h1 eqi ?_
          refine Ol.p (pkTb h1) ?_
          refine Ol.p mvb ?_
          refine Ol.gp h2 (fdl fd_api_Ins_3) ?_
          refine Ol.gp h2 (ld (v := .int .i64 a.b) one_int (Rd.blk (i := 1) rfl rfl)) ?_
          refine Ol.gp h2 (fdl fd_api_Ins_3) ?_
          refine Ol.gp h2 (ld (v := .int .i64 b.b) one_int (Rd.blk (i := 0) rfl rfl)) ?_
          refine Ol.gp h2 eqi ?_
          refine Ol.p (pkTb h2) ?_
          refine Ol.p mvb ?_
          refine Ol.gn h3 ?_
          refine Ol.gn h3 ?_
          refine Ol.gn h3 ?_
          refine Ol.gn h3 ?_
          refine Ol.gn h3 ?_
          refine Ol.p (pkFb h3) ?_
          refine Ol.p mvb ?_
          refine Ol.gn rfl ?_
          refine Ol.gn rfl ?_
          refine Ol.gn rfl ?_
          refine Ol.gn rfl ?_
          refine Ol.gn rfl ?_
          refine Ol.p (pkFb rfl) ?_
          refine Ol.p mvb ?_
          refine Ol.gn rfl ?_
          refine Ol.gn rfl ?_
          refine Ol.gn rfl ?_
          refine Ol.gn rfl ?_
          refine Ol.gn rfl ?_
          refine Ol.p (pkFb rfl) ?_
          refine Ol.p mvb ?_
          refine Ol.gn rfl ?_
          refine Ol.gn rfl ?_
          refine Ol.gn rfl ?_
          refine Ol.gn rfl ?_
          refine Ol.gn rfl ?_
          refine Ol.p (pkFb rfl) ?_
          refine Ol.p asb ?_
          refine Ol.nil ?_
          refine Cd.ret ⟨.bool false, ret1 rfl rfl, [], Keep.nil, congrArg Value.bool ?_, rfl⟩
          exact (decide_eq_false fun e => of_decide_eq_false h3 (congrArg RIns.b e : a.bare.b = b.bare.b)).symm
      | false =>
        refine Cd.region ?_
        refine Ol.p (fdl fd_api_Ins_0) ?_
        refine Ol.p (ld (v := .int .i64 a.op) one_api_Op (Rd.blk (i := 1) rfl rfl)) ?_
        refine Ol.p (fdl fd_api_Ins_0) ?_
        refine Ol.p (ld (v := .int .i64 b.op) one_api_Op (Rd.blk (i := 0) rfl rfl)) ?_
        refine Ol.p eqi ?_
        refine Ol.p mvb ?_
        refine Ol.gp h0 (fdl fd_api_Ins_1) ?_
        refine Ol.gp h0 (ld (v := .int .i64 a.dst) one_int (Rd.blk (i := 1) rfl rfl)) ?_
        refine Ol.gp h0 (fdl fd_api_Ins_1) ?_
        refine Ol.gp h0 (ld (v := .int .i64 b.dst) one_int (Rd.blk (i := 0) rfl rfl)) ?_
        refine Ol.gp h0 eqi ?_
        refine Ol.p (pkTb h0) ?_
        refine Ol.p mvb ?_
        refine Ol.gp h1 (fdl fd_api_Ins_2) ?_
        refine Ol.gp h1 (ld (v := .int .i64 a.a) one_int (Rd.blk (i := 1) rfl rfl)) ?_
        refine Ol.gp h1 (fdl fd_api_Ins_2) ?_
        refine Ol.gp h1 (ld (v := .int .i64 b.a) one_int (Rd.blk (i := 0) rfl rfl)) ?_
        refine Ol.gp h1 eqi ?_
        refine Ol.p (pkTb h1) ?_
        refine Ol.p mvb ?_
        refine Ol.gn h2 ?_
        refine Ol.gn h2 ?_
        refine Ol.gn h2 ?_
        refine Ol.gn h2 ?_
        refine Ol.gn h2 ?_
        refine Ol.p (pkFb h2) ?_
        refine Ol.p mvb ?_
        refine Ol.gn rfl ?_
        refine Ol.gn rfl ?_
        refine Ol.gn rfl ?_
        refine Ol.gn rfl ?_
        refine Ol.gn rfl ?_
        refine Ol.p (pkFb rfl) ?_
        refine Ol.p mvb ?_
        refine Ol.gn rfl ?_
        refine Ol.gn rfl ?_
        refine Ol.gn rfl ?_
        refine Ol.gn rfl ?_
        refine Ol.gn rfl ?_
        refine Ol.p (pkFb rfl) ?_
        refine Ol.p mvb ?_
        refine Ol.gn rfl ?_
        refine Ol.gn rfl ?_
        refine Ol.gn rfl ?_
        refine Ol.gn rfl ?_
        refine Ol.gn rfl ?_
        refine Ol.p (pkFb rfl) ?_
        refine Ol.p mvb ?_
        refine Ol.gn rfl ?_
        refine Ol.gn rfl ?_
        refine Ol.gn rfl ?_
        refine Ol.gn rfl ?_
        refine Ol.gn rfl ?_
        refine Ol.p (pkFb rfl) ?_
        refine Ol.p asb ?_
        refine Ol.nil ?_
        refine Cd.ret ⟨.bool false, ret1 rfl rfl, [], Keep.nil, congrArg Value.bool ?_, rfl⟩
        exact (decide_eq_false fun e => of_decide_eq_false h2 (congrArg RIns.a e : a.bare.a = b.bare.a)).symm
    | false =>
      refine Cd.region ?_
      refine Ol.p (fdl fd_api_Ins_0) ?_
      refine Ol.p (ld (v := .int .i64 a.op) one_api_Op (Rd.blk (i := 1) rfl rfl)) ?_
      refine Ol.p (fdl fd_api_Ins_0) ?_
      refine Ol.p (ld (v := .int .i64 b.op) one_api_Op (Rd.blk (i := 0) rfl rfl)) ?_
      refine Ol.p eqi ?_
      refine Ol.p mvb ?_
      refine Ol.gp h0 (fdl fd_api_Ins_1) ?_
      refine Ol.gp h0 (ld (v := .int .i64 a.dst) one_int (Rd.blk (i := 1) rfl rfl)) ?_
      refine Ol.gp h0 (fdl fd_api_Ins_1) ?_
      refine Ol.gp h0 (ld (v := .int .i64 b.dst) one_int (Rd.blk (i := 0) rfl rfl)) ?_
      refine Ol.gp h0 eqi ?_
      refine Ol.p (pkTb h0) ?_
      refine Ol.p mvb ?_
      refine Ol.gn h1 ?_
      refine Ol.gn h1 ?_
      refine Ol.gn h1 ?_
      refine Ol.gn h1 ?_
      refine Ol.gn h1 ?_
      refine Ol.p (pkFb h1) ?_
      refine Ol.p mvb ?_
      refine Ol.gn rfl ?_
      refine Ol.gn rfl ?_
      refine Ol.gn rfl ?_
      refine Ol.gn rfl ?_
      refine Ol.gn rfl ?_
      refine Ol.p (pkFb rfl) ?_
      refine Ol.p mvb ?_
      refine Ol.gn rfl ?_
      refine Ol.gn rfl ?_
      refine Ol.gn rfl ?_
      refine Ol.gn rfl ?_
      refine Ol.gn rfl ?_
      refine Ol.p (pkFb rfl) ?_
      refine Ol.p mvb ?_
      refine Ol.gn rfl ?_
      refine Ol.gn rfl ?_
      refine Ol.gn rfl ?_
      refine Ol.gn rfl ?_
      refine Ol.gn rfl ?_
      refine Ol.p (pkFb rfl) ?_
      refine Ol.p mvb ?_
      refine Ol.gn rfl ?_
      refine Ol.gn rfl ?_
      refine Ol.gn rfl ?_
      refine Ol.gn rfl ?_
      refine Ol.gn rfl ?_
      refine Ol.p (pkFb rfl) ?_
      refine Ol.p mvb ?_
      refine Ol.gn rfl ?_
      refine Ol.gn rfl ?_
      refine Ol.gn rfl ?_
      refine Ol.gn rfl ?_
      refine Ol.gn rfl ?_
      refine Ol.p (pkFb rfl) ?_
      refine Ol.p asb ?_
      refine Ol.nil ?_
      refine Cd.ret ⟨.bool false, ret1 rfl rfl, [], Keep.nil, congrArg Value.bool ?_, rfl⟩
      exact (decide_eq_false fun e => of_decide_eq_false h1 (congrArg RIns.dst e : a.bare.dst = b.bare.dst)).symm
  | false =>
    refine Cd.region ?_
    refine Ol.p (fdl fd_api_Ins_0) ?_
    refine Ol.p (ld (v := .int .i64 a.op) one_api_Op (Rd.blk (i := 1) rfl rfl)) ?_
    refine Ol.p (fdl fd_api_Ins_0) ?_
    refine Ol.p (ld (v := .int .i64 b.op) one_api_Op (Rd.blk (i := 0) rfl rfl)) ?_
    refine Ol.p eqi ?_
    refine Ol.p mvb ?_
    refine Ol.gn h0 ?_
    refine Ol.gn h0 ?_
    refine Ol.gn h0 ?_
    refine Ol.gn h0 ?_
    refine Ol.gn h0 ?_
    refine Ol.p (pkFb h0) ?_
    refine Ol.p mvb ?_
    refine Ol.gn rfl ?_
    refine Ol.gn rfl ?_
    refine Ol.gn rfl ?_
    refine Ol.gn rfl ?_
    refine Ol.gn rfl ?_
    refine Ol.p (pkFb rfl) ?_
    refine Ol.p mvb ?_
    refine Ol.gn rfl ?_
    refine Ol.gn rfl ?_
    refine Ol.gn rfl ?_
    refine Ol.gn rfl ?_
    refine Ol.gn rfl ?_
    refine Ol.p (pkFb rfl) ?_
    refine Ol.p mvb ?_
    refine Ol.gn rfl ?_
    refine Ol.gn rfl ?_
    refine Ol.gn rfl ?_
    refine Ol.gn rfl ?_
    refine Ol.gn rfl ?_
    refine Ol.p (pkFb rfl) ?_
    refine Ol.p mvb ?_
    refine Ol.gn rfl ?_
    refine Ol.gn rfl ?_
    refine Ol.gn rfl ?_
    refine Ol.gn rfl ?_
    refine Ol.gn rfl ?_
    refine Ol.p (pkFb rfl) ?_
    refine Ol.p mvb ?_
    refine Ol.gn rfl ?_
    refine Ol.gn rfl ?_
    refine Ol.gn rfl ?_
    refine Ol.gn rfl ?_
    refine Ol.gn rfl ?_
    refine Ol.p (pkFb rfl) ?_
    refine Ol.p mvb ?_
    refine Ol.gn rfl ?_
    refine Ol.gn rfl ?_
    refine Ol.gn rfl ?_
    refine Ol.gn rfl ?_
    refine Ol.gn rfl ?_
    refine Ol.p (pkFb rfl) ?_
    refine Ol.p asb ?_
    refine Ol.nil ?_
    refine Cd.ret ⟨.bool false, ret1 rfl rfl, [], Keep.nil, congrArg Value.bool ?_, rfl⟩
    exact (decide_eq_false fun e => of_decide_eq_false h0 (congrArg RIns.op e : a.bare.op = b.bare.op)).symm
end
theorem bare_ne {α β : Type} {F : α → β} {a b : List α} {k : Nat} {x y : α} (ha : a[k]? = some x) (hb : b[k]? = some y) (h : F x ≠ F y) : a.map F ≠ b.map F := fun e => by
  have := congrArg (fun l : List β => l[k]?) e
  simp only [List.getElem?_map, ha, hb, Option.map_some] at this
  exact h (Option.some.inj this)
section
set_option maxHeartbeats 2000000 in
theorem kit_SameRow_ct {w : World} {A B : Option Addr} {c d : Nat} {a b : List RIns} (hra : Reads w w.heap.size 8 A a.length (a.flatMap RIns.cells)) (hrb : Reads w w.heap.size 8 B b.length (b.flatMap RIns.cells)) (haa : ∀ i ∈ a, Reads w w.heap.size 1 i.aA i.args.length (ints i.args)) (hba : ∀ i ∈ b, Reads w w.heap.size 1 i.aA i.args.length (ints i.args)) (hai : ∀ i ∈ a, i.args.length < 2 ^ 60) (hbi : ∀ i ∈ b, i.args.length < 2 ^ 60) (hal : a.length < 2 ^ 60) (hbl : b.length < 2 ^ 60) :
    Ct Tryz.prog 116 #[.slice A a.length c, .slice B b.length d] w (Is (.bool (decide (a.map RIns.bare = b.map RIns.bare)))) := by
  refine Ct.mk Tryz.func116 rfl rfl ?_
  refine Cd.seq ?_
  refine Cd.region ?_
  refine Ol.p asb ?_
  refine Ol.nil ?_
  refine Cd.seq ?_
  refine Cd.seq ?_
  refine Cd.region ?_
  refine Ol.p mvs ?_
  refine Ol.p (lens sl_L_api_Ins) ?_
  refine Ol.p mvs ?_
  refine Ol.p (lens sl_L_api_Ins) ?_
  refine Ol.p nei ?_
  refine Ol.nil ?_
  refine Cd.cond rfl (fun h => ?_) (fun h => ?_)   -- $10
  · have hne : a.map RIns.bare ≠ b.map RIns.bare := fun e => by
      have := congrArg List.length e
      simp at this
      rw [this] at h
      simp at h
    refine Cd.seq ?_
    refine Cd.region ?_
    refine Ol.p asb ?_
    refine Ol.nil ?_
    exact Cd.ret ⟨.bool false, ret1 rfl rfl, [], .nil, by rw [decide_eq_false hne], rfl⟩
  have hlen : a.length = b.length := by
    have : (a.length : Int) = (b.length : Int) := by simpa using h
    omega
  refine Cd.skip ?_
  refine Cd.seq ?_
  refine Cd.seq ?_
  refine Cd.region ?_
  refine Ol.p asi ?_
  refine Ol.nil ?_
  refine Cd.block ?_   -- 0
  refine Cd.loop (fun m σ L => ∃ k, m = a.length - k ∧ k ≤ a.length ∧ (a.take k).map RIns.bare = (b.take k).map RIns.bare ∧ Has σ [(0, .slice A a.length c), (1, .slice B b.length d), (5, .int .i64 k)] ∧ [] = L) (n := a.length) ⟨0, rfl, Nat.zero_le _, rfl, ⟨rfl, rfl, rfl, trivial⟩, rfl⟩ ?_
  rintro _ σ L ⟨k, rfl, hk, hsame, hs, rfl⟩
  refine Cd.has hs ?_
  refine Cd.seq ?_
  refine Cd.seq ?_
  refine Cd.region ?_
  refine Ol.p mvi ?_
  refine Ol.p mvs ?_
  refine Ol.p (lens sl_L_api_Ins) ?_
  refine Ol.p lsi ?_
  refine Ol.nil ?_
  refine Cd.cond rfl (fun h => ?_) (fun h => ?_)   -- $14
  · have hlt : k < a.length := by
      simp only [decide_eq_true_eq] at h; omega
    obtain ⟨x, hx⟩ : ∃ x, a[k]? = some x := ⟨_, List.getElem?_eq_getElem hlt⟩
    obtain ⟨y, hy⟩ : ∃ y, b[k]? = some y := ⟨_, List.getElem?_eq_getElem (by omega)⟩
    have hxm := List.mem_of_getElem? hx
    have hym := List.mem_of_getElem? hy
    refine Cd.skip ?_
    refine Cd.seq ?_
    refine Cd.block ?_   -- 1
    refine Cd.seq ?_
    refine Cd.draw mixed 10 (exIs (fun opNo => match opNo with | 8 => some (.bool (decide (x.bare = y.bare))) | _ => none)) (fun _ => []) (by kernel_rfl) exIs_in (fun u hu => ?_)
    refine Wk.p mvs ?_
    refine Wk.p mvi ?_
    refine Wk.p (ixn (ix := k) sl_L_api_Ins (Som.slc hra (by omega))) ?_
    refine Wk.p (lds (es := x.cells) ag_api_Ins hra x.len (fun j u hu => ins_cell hx hu)) ?_
    refine Wk.p mvs ?_
    refine Wk.p mvi ?_
    refine Wk.p (ixn (ix := k) sl_L_api_Ins (Som.slc hrb (by omega))) ?_
    refine Wk.p (lds (es := y.cells) ag_api_Ins hrb y.len (fun j u hu => ins_cell hy hu)) ?_
    refine Wk.dk hu (sp_call en_kit_SameIns (fun M w' hh => kit_SameIns_ct ((haa x hxm).now hh) ((hba y hym).now hh) (hai x hxm) (hbi y hym))) ?_
    refine Wk.p noti ?_
    refine Wk.nil ?_
    rw [needs_exIs hu rfl]
    refine Ol.nil ?_
    refine Cd.cond rfl (fun h => ?_) (fun h => ?_)   -- $26
    · have hne : x.bare ≠ y.bare := by simpa using h
      refine Cd.seq ?_
      refine Cd.region ?_
      refine Ol.p asb ?_
      refine Ol.nil ?_
      exact Cd.ret ⟨.bool false, ret1 rfl rfl, [], .nil, by rw [decide_eq_false (bare_ne hx hy hne)], rfl⟩
    have heq : x.bare = y.bare := by simpa using h
    refine Cd.skip ?_
    refine Cd.region ?_
    refine Ol.p mvi ?_
    refine Ol.p addi ?_
    refine Ol.p asi ?_
    refine Ol.nil ?_
    refine ⟨a.length - (k + 1), by omega, k + 1, rfl, by omega, ?_, ⟨rfl, rfl, rfl, trivial⟩, rfl⟩
    rw [take_snoc_ hx, take_snoc_ hy, List.map_append, List.map_append, hsame, List.map_singleton, List.map_singleton, heq]
  have hke : k = a.length := by
    simp only [decide_eq_false_iff_not] at h; omega
  have heq : a.map RIns.bare = b.map RIns.bare := by
    rw [hke, List.take_of_length_le (Nat.le_refl _), hlen, List.take_of_length_le (Nat.le_refl _)] at hsame
    exact hsame
  refine Cd.exit (id := 0) ?_
  refine Cd.seq ?_
  refine Cd.region ?_
  refine Ol.p asb ?_
  refine Ol.nil ?_
  exact Cd.ret ⟨.bool true, ret1 rfl rfl, [], .nil, by rw [decide_eq_true heq], rfl⟩
end
end Go.Proofs.YtkefmjhagmacfaaGreatDoor

/- Ends, compared: a struct with an array in it. -/
namespace Go.Proofs.YtkefmjhagmacfaaGreatDoor
set_option linter.unusedVariables false
open Go Go.RowKit
section
variable {P : Program} {w0 : World} {B : Nat} {σ : Env} {L : List Res} {d : Option Nat} {ty T : TypeId} {pos : String} {af : Array Edge} {gd : Option (Nat × Bool)} {x y z : Operand} {v : Value}
theorem run_eqFields_cons {dd : Nat} {xs ys : Array Value} {f : Field} {fs : List Field} {a b : Value} {r : Bool} {w : World} (hn : f.name ≠ "_") (p1 : (part f.type xs f.offset).run P w = .ok a w) (p2 : (part f.type ys f.offset).run P w = .ok b w) (h1 : (Op.equalIn dd f.type a b).run P w = .ok r w) :
    (Op.eqFields dd xs ys (f :: fs)).run P w = if r = true then (Op.eqFields dd xs ys fs).run P w else .ok false w := by
  simp only [Op.eqFields, hn, ne_eq, not_false_eq_true, if_true, Sem.run_bind, p1, p2, h1, Result.andThen_ok]
  cases r <;> simp
def itB (P : Program) (e : TypeId) : Bool := (match P.underlying e with | some (.int _) => true | _ => false) && decide ((P.info? e).map (·.size) = some 1)
theorem itB_prim {e : TypeId} (h : itB P e = true) : ∃ k, primT P e (.int k) := by
  unfold itB at h
  rw [Bool.and_eq_true, decide_eq_true_eq] at h
  obtain ⟨h1, h2⟩ := h
  split at h1
  · rename_i k hk
    exact ⟨k, hk, rfl, h2⟩
  · cases h1
theorem run_equalIn_arr {n dd : Nat} {e T : TypeId} {kd : TypeDesc} {xs ys : Array Value} {r : Bool} (hT : P.underlying T = some (.array n e)) (he : primT P e kd) (hx : xs.size = n) (hy : ys.size = n) (h : ∀ (i : Nat) a b, xs[i]? = some a → ys[i]? = some b → Tell kd a b) (hr : r = true ↔ xs = ys) (w : World) : (Op.equalIn (dd + 2) T (.agg xs) (.agg ys)).run P w = .ok r w := by
  obtain ⟨i, hi, hs⟩ := info_of he.2.2
  have hc : P.cellsOf e = 1 := by simp [Program.cellsOf, hi, hs]
  have := run_equalIn_array (P := P) w (dd + 1) xs ys hT hi
  rw [hc, run_eqItems_prim (dd := dd) he w (List.range n) (fun i hi => by
    have hi : i < n := by simpa using hi
    exact ⟨xs[i], ys[i], Array.getElem?_eq_getElem _, Array.getElem?_eq_getElem _, h i _ _ (Array.getElem?_eq_getElem (by omega)) (Array.getElem?_eq_getElem (by omega))⟩) r (by
    rw [hr]
    constructor
    · rintro rfl i _; rfl
    · intro h
      apply Array.ext_getElem?
      intro i
      by_cases hi : i < n
      · exact h i (by simpa using hi)
      · rw [Array.getElem?_eq_none (by omega), Array.getElem?_eq_none (by omega)])] at this
  exact this
/-- A struct of two numbers and of two in an array. -/
def stT (P : Program) (T : TypeId) : Bool := match P.underlying T with
  | some (.struct fs) => (match fs.toList with
    | [f, g, h] => decide (f.name ≠ "_") && decide (g.name ≠ "_") && decide (h.name ≠ "_") && decide (f.offset = 0) && decide (g.offset = 1) && decide (h.offset = 2) && itB P f.type && itB P g.type && (match P.underlying h.type with | some (.array n e) => decide (n = 2) && itB P e && decide ((P.info? h.type).map (·.size) = some 2) | _ => false)
    | _ => false) && !P.stoodInHeld T && !P.eqGuardType P.depth T
  | _ => false
theorem run_equal_tm (hT : stT P T = true) (s t : Tm) (w : World) : (Op.equal T s.val t.val).run P w = .ok (decide (s = t)) w ∧ P.eqGuardType P.depth T = false := by
  unfold stT at hT
  split at hT
  · rename_i fs hu
    simp only [Bool.and_eq_true, Bool.not_eq_true'] at hT
    obtain ⟨⟨hT, h3⟩, h4⟩ := hT
    refine ⟨?_, h4⟩
    split at hT
    · rename_i f g h hfs
      simp only [Bool.and_eq_true, decide_eq_true_eq] at hT
      obtain ⟨⟨⟨⟨⟨⟨⟨⟨n1, n2⟩, n3⟩, o1⟩, o2⟩, o3⟩, i1⟩, i2⟩, hA⟩ := hT
      split at hA
      · rename_i n e hua
        simp only [Bool.and_eq_true, decide_eq_true_eq] at hA
        obtain ⟨⟨rfl, i3⟩, hsz⟩ := hA
        obtain ⟨ia, hia, hsa⟩ := info_of hsz
        obtain ⟨k1, p1⟩ := itB_prim i1
        obtain ⟨k2, p2⟩ := itB_prim i2
        obtain ⟨k3, p3⟩ := itB_prim i3
        have hf : P.fieldsOf T = fs := by simp [Program.fieldsOf, hu]
        have := run_equalIn_struct (P := P) w 9999 T s.cells.toArray t.cells.toArray (by rw [hf]; exact hu) h3
        have e : (Op.equal T s.val t.val).run P w = (Op.equalIn (9999 + 1) T (.agg s.cells.toArray) (.agg t.cells.toArray)).run P w := rfl
        rw [e, this, hf, hfs]
        have pa : ∀ u : Tm, (part h.type u.cells.toArray h.offset).run P w = .ok (.agg #[.int .i64 u.t0, .int .i64 u.t1]) w := fun u => by
          rw [o3]
          simp [part, isAgg, run_underlying hua, run_sizeOf w hia, hsa, Tm.cells, Program.cellsOf, hia]
        rw [run_eqFields_cons (r := decide (s.kind = t.kind)) n1 (run_part_one p1.one (v := .int .i64 s.kind) (by rw [o1]; rfl) w) (run_part_one p1.one (v := .int .i64 t.kind) (by rw [o1]; rfl) w) (run_eq_prim (dd := 9998) p1.1 (by simp [Instr.sameNow]; rfl) w)]
        rw [run_eqFields_cons (r := decide (s.a = t.a)) n2 (run_part_one p2.one (v := .int .i64 s.a) (by rw [o2]; rfl) w) (run_part_one p2.one (v := .int .i64 t.a) (by rw [o2]; rfl) w) (run_eq_prim (dd := 9998) p2.1 (by simp [Instr.sameNow]; rfl) w)]
        rw [run_eqFields_cons (r := decide (s.t0 = t.t0 ∧ s.t1 = t.t1)) n3 (pa s) (pa t) (run_equalIn_arr (dd := 9997) hua p3 rfl rfl (fun i a b ha hb => by
          match i, ha, hb with
          | 0, ha, hb => cases ha; cases hb; exact Tell.int
          | 1, ha, hb => cases ha; cases hb; exact Tell.int
          | i + 2, ha, _ => simp at ha) (by simp) w)]
        have e0 : (Op.eqFields 9999 s.cells.toArray t.cells.toArray []).run P w = .ok true w := by simp [Op.eqFields]
        rw [e0]
        obtain ⟨s1, s2, s3, s4⟩ := s
        obtain ⟨t1, t2, t3, t4⟩ := t
        simp only [Tm.mk.injEq, decide_eq_true_eq]
        by_cases q1 : s1 = t1
        · by_cases q2 : s2 = t2
          · by_cases q3 : s3 = t3 ∧ s4 = t4
            · simp [q1, q2, q3]
            · simp [q1, q2, q3]
          · simp [q1, q2]
        · simp [q1]
      · cases hA
    · cases hT
  · cases hT
theorem eqT {u : TypeId} {s t : Tm} (hT : stT P T = true) (hx : ev σ x = s.val := by exact rfl) (hy : ev σ y = t.val := by exact rfl) :
    Sd P w0 B ⟨d, .binOp .eql T x y u, ty, pos, af, gd⟩ σ L (.bool (decide (s = t))) := sp_val fun w => by
  obtain ⟨h1, h2⟩ := run_equal_tm hT s t w
  have h2' : ∀ a b : Array Value, (eqGuard .eql T x y (.agg a) (.agg b)).run P w = .ok () w := fun a b => eqGuard_agg h2
  simp only [execOp, hx, hy, binOp, Tm.val] at h1 ⊢
  simp [h2', h1]
end
theorem st_api_Term : stT Tryz.prog 47 = true := by kernel_rfl
end Go.Proofs.YtkefmjhagmacfaaGreatDoor

/- A function in memory of its own: what is held of it; copies, walked. -/
namespace Go.Proofs.YtkefmjhagmacfaaGreatDoor
set_option linter.unusedVariables false
open Go Go.RowKit
set_option maxRecDepth 100000

def insRes (i : RIns) : Res := row (.slice i.aA i.args.length i.aC) 3 1 i.args.length (ints i.args)
def insRow (b : RBlk) : Res := row (.slice b.iA b.ins.length b.iC) 110 8 b.ins.length (b.ins.flatMap RIns.cells)
def blkRes (b : RBlk) : List Res := insRow b :: b.ins.map insRes
def prmRow (f : RFun) : Res := row (.slice f.pA f.params.length f.pC) 3 1 f.params.length (ints f.params)
def blkRow (f : RFun) : Res := row (.slice f.bA f.blocks.length f.bC) 49 5 f.blocks.length (f.blocks.flatMap RBlk.cells)
def funRes (f : RFun) : List Res := prmRow f :: blkRow f :: f.blocks.flatMap blkRes
section
variable {w0 w : World} {B : Nat} {M L : List Res} {g : RFun}
theorem cap_row {A : Option Addr} {n c e s : Nat} {xs : List Value} (h : w.ownsRow 0 e s (.slice A n c) n xs) : n ≤ c := by
  rcases h.2 with ⟨hv, h0⟩ | ⟨g, cap, cur, hv, _, _, hn, _⟩
  · omega
  · injection hv with _ _ hc
    omega
/-- Its numbers are numbers, it is not endless. -/
structure FitC (f : RFun) : Prop where
  params : ∀ n ∈ f.params, -9223372036854775808 ≤ n ∧ n ≤ 9223372036854775807
  plen : f.params.length < 2 ^ 50
  blen : f.blocks.length < 2 ^ 50
  ilen : ∀ b ∈ f.blocks, b.ins.length < 2 ^ 50
  term : ∀ b ∈ f.blocks, ∀ n ∈ [b.term.kind, b.term.a, b.term.t0, b.term.t1], -9223372036854775808 ≤ n ∧ n ≤ 9223372036854775807
  insr : ∀ b ∈ f.blocks, ∀ i ∈ b.ins, ∀ n ∈ [i.op, i.dst, i.a, i.b, i.imm, i.callee, i.many], -9223372036854775808 ≤ n ∧ n ≤ 9223372036854775807
  alen : ∀ b ∈ f.blocks, ∀ i ∈ b.ins, i.args.length < 2 ^ 50
  argr : ∀ b ∈ f.blocks, ∀ i ∈ b.ins, ∀ n ∈ i.args, -9223372036854775808 ≤ n ∧ n ≤ 9223372036854775807
theorem Fit.c {f : RFun} (h : Fit f) : FitC f := ⟨h.params, h.plen, h.blen, h.ilen, h.term, h.insr, h.alen, h.argr⟩
theorem FitC.bare {f : RFun} (h : FitC f) : FitC f.bare := by
  have hb : ∀ b ∈ f.bare.blocks, ∃ y ∈ f.blocks, b = y.bare := fun b hb => by
    obtain ⟨y, hy, e⟩ := List.mem_map.1 hb
    exact ⟨y, hy, e.symm⟩
  have hi : ∀ (y : RBlk), ∀ i ∈ y.bare.ins, ∃ j ∈ y.ins, i = j.bare := fun y i hi => by
    obtain ⟨j, hj, e⟩ := List.mem_map.1 hi
    exact ⟨j, hj, e.symm⟩
  refine ⟨h.params, h.plen, by simpa [RFun.bare] using h.blen, fun b hb' => ?_, fun b hb' => ?_, fun b hb' i hi' => ?_, fun b hb' i hi' => ?_, fun b hb' i hi' => ?_⟩
  · obtain ⟨y, hy, rfl⟩ := hb b hb'
    simpa [RBlk.bare] using h.ilen y hy
  · obtain ⟨y, hy, rfl⟩ := hb b hb'
    exact h.term y hy
  all_goals
    obtain ⟨y, hy, rfl⟩ := hb b hb'
    obtain ⟨j, hj, rfl⟩ := hi y i hi'
    first | exact h.insr y hy j hj | exact h.alen y hy j hj | exact h.argr y hy j hj
theorem FitC.unbare {f : RFun} (h : FitC f.bare) : FitC f := by
  have hb : ∀ b ∈ f.blocks, b.bare ∈ f.bare.blocks := fun b hb => List.mem_map_of_mem hb
  have hi : ∀ (y : RBlk), ∀ i ∈ y.ins, i.bare ∈ y.bare.ins := fun y i hi => List.mem_map_of_mem hi
  exact ⟨h.params, h.plen, by simpa [RFun.bare] using h.blen, fun b hb' => by simpa [RBlk.bare] using h.ilen _ (hb b hb'), fun b hb' => h.term b.bare (hb b hb'), fun b hb' i hi' => h.insr b.bare (hb b hb') i.bare (hi b i hi'), fun b hb' i hi' => h.alen b.bare (hb b hb') i.bare (hi b i hi'), fun b hb' i hi' => h.argr b.bare (hb b hb') i.bare (hi b i hi')⟩
theorem FitC.same {f : RFun} (h : FitC f) (e : g.bare = f.bare) : FitC g := FitC.unbare (e ▸ h.bare)
end
theorem one_ints (l : List Int) : ∀ u ∈ ints l, u.oneCell' = true := fun u hu => by
  obtain ⟨n, _, rfl⟩ := List.mem_map.1 hu
  rfl
/-- A slice's literal of one value of several cells. -/
theorem bs1 {P : Program} {w0 : World} {B : Nat} {σ : Env} {L : List Res} {d : Option Nat} {ty T : TypeId} {pos : String} {af : Array Edge} {gd : Option (Nat × Bool)} {e s b : Nat} {parts : List (Nat × Operand)} {zv v : Value} {cs : List Value} (hT : SlT P T e s b) (hz : ZrT P e zv) (hv : v.cells = cs.toArray) (hs : cs.length = s) (hb : s ≤ 16777216 := by decide) (hp : parts.map (fun p => (p.1, ev σ p.2)) = [(0, v)] := by exact rfl) :
    Sp P w0 B ⟨d, .buildSlice T 1 parts.toArray, ty, pos, af, gd⟩ σ L (NewS e s 1 1 cs L) := by
  have hvs : ∀ u ∈ [v], u.cells.size = s := by
    intro u hu
    simp only [List.mem_singleton] at hu
    rw [hu, hv]; simpa using hs
  have h := bsn (d := d) (ty := ty) (pos := pos) (af := af) (gd := gd) (P := P) (w0 := w0) (B := B) (L := L) [v] hT hz hvs rfl (by simp only [List.length_singleton]; omega) (by simp [maxLen]) hp
  have e1 : [v].flatMap (fun v => v.cells.toList) = cs := by simp [hv]
  rwa [e1] at h
def RFun.with (g : RFun) (bs : List RBlk) : RFun := { g with blocks := bs }
/-- The k first ones have turned. -/
def turnTo {α : Type} (r : α → α) (l : List α) (k : Nat) : List α := (l.take k).map r ++ l.drop k
def RIns.at_ (i : RIns) (A : Option Addr) (c : Nat) : RIns := { i with aA := A, aC := c }
def RBlk.at_ (b : RBlk) (A : Option Addr) (c : Nat) (l : List RIns) : RBlk := { b with iA := A, iC := c, ins := l }
theorem RBlk.at_bare {b : RBlk} {A : Option Addr} {c : Nat} {l : List RIns} (h : l.map RIns.bare = b.ins.map RIns.bare) : (b.at_ A c l).bare = b.bare := by
  unfold RBlk.bare RBlk.at_
  simp only [h]
/-- A list of blocks that can be read from outside. -/
structure BlksIn (w : World) (B : Nat) (A : Option Addr) (l : List RBlk) : Prop where
  row : Reads w B 5 A l.length (l.flatMap RBlk.cells)
  ins : ∀ b ∈ l, Reads w B 8 b.iA b.ins.length (b.ins.flatMap RIns.cells)
  args : ∀ b ∈ l, ∀ i ∈ b.ins, Reads w B 1 i.aA i.args.length (ints i.args)
  len : l.length < 2 ^ 36
  ilen : ∀ b ∈ l, b.ins.length < 2 ^ 36
  alen : ∀ b ∈ l, ∀ i ∈ b.ins, i.args.length < 2 ^ 44
theorem BlksIn.now {w0 w : World} {B : Nat} {A : Option Addr} {l : List RBlk} {L : List Res} (h : BlksIn w0 B A l) (hh : Hp w0 B L w) : BlksIn w w.heap.size A l :=
  ⟨h.row.now hh, fun b hb => (h.ins b hb).now hh, fun b hb i hi => (h.args b hb i hi).now hh, h.len, h.ilen, h.alen⟩
end Go.Proofs.YtkefmjhagmacfaaGreatDoor

/- The kit: whole functions are compared, walked. -/
namespace Go.Proofs.YtkefmjhagmacfaaGreatDoor
set_option linter.unusedVariables false
open Go Go.RowKit
set_option maxRecDepth 100000

/-- Where a block's lists lie. -/
structure BlkR (w : World) (B : Nat) (x : RBlk) : Prop where
  ins : Reads w B 8 x.iA x.ins.length (x.ins.flatMap RIns.cells)
  args : ∀ i ∈ x.ins, Reads w B 1 i.aA i.args.length (ints i.args)
  alen : ∀ i ∈ x.ins, i.args.length < 2 ^ 60
  ilen : x.ins.length < 2 ^ 60
theorem BlkR.now {w0 w : World} {B : Nat} {L : List Res} {x : RBlk} (h : BlkR w0 B x) (hh : Hp w0 B L w) : BlkR w w.heap.size x := ⟨h.ins.now hh, fun i hi => (h.args i hi).now hh, h.alen, h.ilen⟩
section
set_option maxHeartbeats 1000000 in
theorem kit_SameBlock_ct {w : World} {a b : RBlk} (ha : BlkR w w.heap.size a) (hb : BlkR w w.heap.size b) : Ct Tryz.prog 88 #[a.val, b.val] w (Is (.bool (decide (a.bare = b.bare)))) := by
  refine Ct.mk Tryz.func88 rfl rfl ?_
  refine Cd.seq ?_
  refine Cd.region ?_
  refine Ol.x bxg ?_
  rintro _ _ ⟨g2, rfl, rfl⟩
  refine Ol.x bxg ?_
  rintro _ _ ⟨g3, rfl, rfl⟩
  refine Ol.p asb ?_
  refine Ol.nil ?_
  refine Cd.seq ?_
  cases h0 : decide (a.ins.map RIns.bare = b.ins.map RIns.bare) with
  | true =>
    refine Cd.region ?_
    refine Ol.p (fdl fd_api_Block_0) ?_
    refine Ol.p (ld (v := .slice a.iA a.ins.length a.iC) one_L_api_Ins (Rd.blk (i := 1) rfl rfl)) ?_
    refine Ol.p (fdl fd_api_Block_0) ?_
    refine Ol.p (ld (v := .slice b.iA b.ins.length b.iC) one_L_api_Ins (Rd.blk (i := 0) rfl rfl)) ?_
    refine Ol.s (cl en_kit_SameRow (fun M w' hh => kit_SameRow_ct (ha.ins.now hh) (hb.ins.now hh) (fun i hi => (ha.args i hi).now hh) (fun i hi => (hb.args i hi).now hh) ha.alen hb.alen ha.ilen hb.ilen)) ?_
    refine Ol.p mvb ?_
    refine Ol.gp h0 (fdl fd_api_Block_1) ?_
    refine Ol.gp h0 (ldp (k := 0 + 1) (vs := a.term.cells.toArray) ag_api_Term (i := 1) rfl rfl (fun j u hu => by rw [Nat.zero_add, Nat.add_comm]; simpa [RBlk.cells] using hu)) ?_
    refine Ol.gp h0 (fdl fd_api_Block_1) ?_
    refine Ol.gp h0 (ldp (k := 0 + 1) (vs := b.term.cells.toArray) ag_api_Term (i := 0) rfl rfl (fun j u hu => by rw [Nat.zero_add, Nat.add_comm]; simpa [RBlk.cells] using hu)) ?_
    refine Ol.gp h0 (eqT (s := a.term) (t := b.term) st_api_Term) ?_
    refine Ol.p (pkTb h0) ?_
    refine Ol.p asb ?_
    refine Ol.nil ?_
    refine Cd.ret ⟨.bool _, ret1 rfl rfl, [], Keep.nil, congrArg Value.bool ?_, rfl⟩
    have q0 := of_decide_eq_true h0
    rw [decide_eq_decide]
    unfold RBlk.bare
    simp [q0]
  | false =>
    refine Cd.region ?_
    refine Ol.p (fdl fd_api_Block_0) ?_
    refine Ol.p (ld (v := .slice a.iA a.ins.length a.iC) one_L_api_Ins (Rd.blk (i := 1) rfl rfl)) ?_
    refine Ol.p (fdl fd_api_Block_0) ?_
    refine Ol.p (ld (v := .slice b.iA b.ins.length b.iC) one_L_api_Ins (Rd.blk (i := 0) rfl rfl)) ?_
    refine Ol.s (cl en_kit_SameRow (fun M w' hh => kit_SameRow_ct (ha.ins.now hh) (hb.ins.now hh) (fun i hi => (ha.args i hi).now hh) (fun i hi => (hb.args i hi).now hh) ha.alen hb.alen ha.ilen hb.ilen)) ?_
    refine Ol.p mvb ?_
    refine Ol.gn h0 ?_
    refine Ol.gn h0 ?_
    refine Ol.gn h0 ?_
    refine Ol.gn h0 ?_
    refine Ol.gn h0 ?_
    refine Ol.p (pkFb h0) ?_
    refine Ol.p asb ?_
    refine Ol.nil ?_
    refine Cd.ret ⟨.bool false, ret1 rfl rfl, [], Keep.nil, congrArg Value.bool ?_, rfl⟩
    exact (decide_eq_false fun e => of_decide_eq_false h0 (congrArg RBlk.ins e : a.bare.ins = b.bare.ins)).symm
end
section
set_option maxHeartbeats 2000000 in
theorem kit_SameBlocks_ct {w : World} {A B : Option Addr} {c d : Nat} {a b : List RBlk} (hra : Reads w w.heap.size 5 A a.length (a.flatMap RBlk.cells)) (hrb : Reads w w.heap.size 5 B b.length (b.flatMap RBlk.cells)) (haa : ∀ x ∈ a, BlkR w w.heap.size x) (hba : ∀ x ∈ b, BlkR w w.heap.size x) (hal : a.length < 2 ^ 60) (hbl : b.length < 2 ^ 60) :
    Ct Tryz.prog 86 #[.slice A a.length c, .slice B b.length d] w (Is (.bool (decide (a.map RBlk.bare = b.map RBlk.bare)))) := by
  refine Ct.mk Tryz.func86 rfl rfl ?_
  refine Cd.seq ?_
  refine Cd.region ?_
  refine Ol.p asb ?_
  refine Ol.nil ?_
  refine Cd.seq ?_
  refine Cd.seq ?_
  refine Cd.region ?_
  refine Ol.p mvs ?_
  refine Ol.p (lens sl_L_api_Block) ?_
  refine Ol.p mvs ?_
  refine Ol.p (lens sl_L_api_Block) ?_
  refine Ol.p nei ?_
  refine Ol.nil ?_
  refine Cd.cond rfl (fun h => ?_) (fun h => ?_)   -- $10
  · have hne : a.map RBlk.bare ≠ b.map RBlk.bare := fun e => by
      have := congrArg List.length e
      simp at this
      rw [this] at h
      simp at h
    refine Cd.seq ?_
    refine Cd.region ?_
    refine Ol.p asb ?_
    refine Ol.nil ?_
    exact Cd.ret ⟨.bool false, ret1 rfl rfl, [], .nil, by rw [decide_eq_false hne], rfl⟩
  have hlen : a.length = b.length := by
    have : (a.length : Int) = (b.length : Int) := by simpa using h
    omega
  refine Cd.skip ?_
  refine Cd.seq ?_
  refine Cd.seq ?_
  refine Cd.region ?_
  refine Ol.p asi ?_
  refine Ol.nil ?_
  refine Cd.block ?_   -- 0
  refine Cd.loop (fun m σ L => ∃ k, m = a.length - k ∧ k ≤ a.length ∧ (a.take k).map RBlk.bare = (b.take k).map RBlk.bare ∧ Has σ [(0, .slice A a.length c), (1, .slice B b.length d), (5, .int .i64 k)] ∧ [] = L) (n := a.length) ⟨0, rfl, Nat.zero_le _, rfl, ⟨rfl, rfl, rfl, trivial⟩, rfl⟩ ?_
  rintro _ σ L ⟨k, rfl, hk, hsame, hs, rfl⟩
  refine Cd.has hs ?_
  refine Cd.seq ?_
  refine Cd.seq ?_
  refine Cd.region ?_
  refine Ol.p mvi ?_
  refine Ol.p mvs ?_
  refine Ol.p (lens sl_L_api_Block) ?_
  refine Ol.p lsi ?_
  refine Ol.nil ?_
  refine Cd.cond rfl (fun h => ?_) (fun h => ?_)   -- $14
  · have hlt : k < a.length := by
      simp only [decide_eq_true_eq] at h; omega
    obtain ⟨x, hx⟩ : ∃ x, a[k]? = some x := ⟨_, List.getElem?_eq_getElem hlt⟩
    obtain ⟨y, hy⟩ : ∃ y, b[k]? = some y := ⟨_, List.getElem?_eq_getElem (by omega)⟩
    have hxm := List.mem_of_getElem? hx
    have hym := List.mem_of_getElem? hy
    refine Cd.skip ?_
    refine Cd.seq ?_
    refine Cd.block ?_   -- 1
    refine Cd.seq ?_
    refine Cd.draw mixed 10 (exIs (fun opNo => match opNo with | 8 => some (.bool (decide (x.bare = y.bare))) | _ => none)) (fun _ => []) (by kernel_rfl) exIs_in (fun u hu => ?_)
    refine Wk.p mvs ?_
    refine Wk.p mvi ?_
    refine Wk.p (ixn (ix := k) sl_L_api_Block (Som.slc hra (by omega))) ?_
    refine Wk.p (lds (es := x.cells) ag_api_Block hra x.len (fun j u hu => blk_cell hx hu)) ?_
    refine Wk.p mvs ?_
    refine Wk.p mvi ?_
    refine Wk.p (ixn (ix := k) sl_L_api_Block (Som.slc hrb (by omega))) ?_
    refine Wk.p (lds (es := y.cells) ag_api_Block hrb y.len (fun j u hu => blk_cell hy hu)) ?_
    refine Wk.dk hu (sp_call en_kit_SameBlock (fun M w' hh => kit_SameBlock_ct ((haa x hxm).now hh) ((hba y hym).now hh))) ?_
    refine Wk.p noti ?_
    refine Wk.nil ?_
    rw [needs_exIs hu rfl]
    refine Ol.nil ?_
    refine Cd.cond rfl (fun h => ?_) (fun h => ?_)   -- $26
    · have hne : x.bare ≠ y.bare := by simpa using h
      refine Cd.seq ?_
      refine Cd.region ?_
      refine Ol.p asb ?_
      refine Ol.nil ?_
      exact Cd.ret ⟨.bool false, ret1 rfl rfl, [], .nil, by rw [decide_eq_false (bare_ne hx hy hne)], rfl⟩
    have heq : x.bare = y.bare := by simpa using h
    refine Cd.skip ?_
    refine Cd.region ?_
    refine Ol.p mvi ?_
    refine Ol.p addi ?_
    refine Ol.p asi ?_
    refine Ol.nil ?_
    refine ⟨a.length - (k + 1), by omega, k + 1, rfl, by omega, ?_, ⟨rfl, rfl, rfl, trivial⟩, rfl⟩
    rw [take_snoc_ hx, take_snoc_ hy, List.map_append, List.map_append, hsame, List.map_singleton, List.map_singleton, heq]
  have hke : k = a.length := by
    simp only [decide_eq_false_iff_not] at h; omega
  have heq : a.map RBlk.bare = b.map RBlk.bare := by
    rw [hke, List.take_of_length_le (Nat.le_refl _), hlen, List.take_of_length_le (Nat.le_refl _)] at hsame
    exact hsame
  refine Cd.exit (id := 0) ?_
  refine Cd.seq ?_
  refine Cd.region ?_
  refine Ol.p asb ?_
  refine Ol.nil ?_
  exact Cd.ret ⟨.bool true, ret1 rfl rfl, [], .nil, by rw [decide_eq_true heq], rfl⟩
end
section
set_option maxHeartbeats 1000000 in
theorem kit_SameFunc_ct {w : World} {f g : RFun} (hf : FunAt w w.heap.size f) (hg : FunAt w w.heap.size g) (hff : FitC f) (hgf : FitC g) : Ct Tryz.prog 67 #[f.val, g.val] w (Is (.bool (decide (f.bare = g.bare)))) := by
  have hfp := hff.plen
  have hgp := hgf.plen
  have hfb := hff.blen
  have hgb := hgf.blen
  have hfr : ∀ x ∈ f.blocks, BlkR w w.heap.size x := fun x hx => ⟨hf.ins x hx, hf.args x hx, fun i hi => by have := hff.alen x hx i hi; omega, by have := hff.ilen x hx; omega⟩
  have hgr : ∀ x ∈ g.blocks, BlkR w w.heap.size x := fun x hx => ⟨hg.ins x hx, hg.args x hx, fun i hi => by have := hgf.alen x hx i hi; omega, by have := hgf.ilen x hx; omega⟩
  refine Ct.mk Tryz.func67 rfl rfl ?_
  refine Cd.seq ?_
  refine Cd.region ?_
  refine Ol.x bxg ?_
  rintro _ _ ⟨g2, rfl, rfl⟩
  refine Ol.x bxg ?_
  rintro _ _ ⟨g3, rfl, rfl⟩
  refine Ol.p asb ?_
  refine Ol.nil ?_
  refine Cd.seq ?_
  cases h0 : decide (f.params = g.params) with
  | true =>
    refine Cd.region ?_
    refine Ol.p (fdl fd_api_Func_0) ?_
    refine Ol.p (ld (v := .slice f.pA f.params.length f.pC) one_L_int (Rd.blk (i := 1) rfl rfl)) ?_
    refine Ol.p (fdl fd_api_Func_0) ?_
    refine Ol.p (ld (v := .slice g.pA g.params.length g.pC) one_L_int (Rd.blk (i := 0) rfl rfl)) ?_
    refine Ol.s (cl en_kit_SameInts (fun M w' hh => kit_SameInts_ct (hf.params.now hh) (hg.params.now hh) (by omega) (by omega))) ?_
    refine Ol.p mvb ?_
    refine Ol.gp h0 (fdl fd_api_Func_1) ?_
    refine Ol.gp h0 (ld (v := .slice f.bA f.blocks.length f.bC) one_L_api_Block (Rd.blk (i := 1) rfl rfl)) ?_
    refine Ol.gp h0 (fdl fd_api_Func_1) ?_
    refine Ol.gp h0 (ld (v := .slice g.bA g.blocks.length g.bC) one_L_api_Block (Rd.blk (i := 0) rfl rfl)) ?_
    refine Ol.gs h0 (cl en_kit_SameBlocks (fun M w' hh => kit_SameBlocks_ct (hf.blocks.now hh) (hg.blocks.now hh) (fun x hx => (hfr x hx).now hh) (fun x hx => (hgr x hx).now hh) (by omega) (by omega))) ?_
    refine Ol.p (pkTb h0) ?_
    refine Ol.p asb ?_
    refine Ol.nil ?_
    refine Cd.ret ⟨.bool _, ret1 rfl rfl, [], Keep.nil, congrArg Value.bool ?_, rfl⟩
    have q0 := of_decide_eq_true h0
    rw [decide_eq_decide]
    unfold RFun.bare
    simp [q0]
  | false =>
    refine Cd.region ?_
    refine Ol.p (fdl fd_api_Func_0) ?_
    refine Ol.p (ld (v := .slice f.pA f.params.length f.pC) one_L_int (Rd.blk (i := 1) rfl rfl)) ?_
    refine Ol.p (fdl fd_api_Func_0) ?_
    refine Ol.p (ld (v := .slice g.pA g.params.length g.pC) one_L_int (Rd.blk (i := 0) rfl rfl)) ?_
    refine Ol.s (cl en_kit_SameInts (fun M w' hh => kit_SameInts_ct (hf.params.now hh) (hg.params.now hh) (by omega) (by omega))) ?_
    refine Ol.p mvb ?_
    refine Ol.gn h0 ?_
    refine Ol.gn h0 ?_
    refine Ol.gn h0 ?_
    refine Ol.gn h0 ?_
    refine Ol.gn h0 ?_
    refine Ol.p (pkFb h0) ?_
    refine Ol.p asb ?_
    refine Ol.nil ?_
    refine Cd.ret ⟨.bool false, ret1 rfl rfl, [], Keep.nil, congrArg Value.bool ?_, rfl⟩
    exact (decide_eq_false fun e => of_decide_eq_false h0 (congrArg RFun.params e : f.bare.params = g.bare.params)).symm
end
end Go.Proofs.YtkefmjhagmacfaaGreatDoor

/- The kit: what is lent lies ahead of marks, and is looked at again, walked. -/
namespace Go.Proofs.YtkefmjhagmacfaaGreatDoor
set_option linter.unusedVariables false
set_option linter.unusedSimpArgs false
open Go Go.RowKit
set_option maxRecDepth 100000

theorem Cd.capl {C : Ctx} {k : Code} {Q : Exit → Env → List Res → Prop} {σ : Env} {L : List Res} {i n c e s : Nat} {A : Option Addr} {xs : List Value} (hi : L[i]? = some (row (.slice A n c) e s n xs)) (hc : n ≤ c → Cd C k Q σ L) : Cd C k Q σ L := fun a w ha hs =>
  hc (cap_row (hs.heap.at_ hi)) a w ha hs
def mkN (k i : Nat) : Int := ((1000003 * (k + 7) + i : Nat) : Int)
def MI (k i : Nat) : RIns := ⟨0, 0, 0, 0, mkN k i, 0, none, 0, [], 0⟩
def MB (k i : Nat) : RBlk := ⟨none, 0, [], ⟨0, mkN k i, 0, 0⟩⟩
/-- The marks behind a list. -/
def mkL (j : Nat) : List Int := (List.range j).map (mkN 1)
def mkIL (j : Nat) : List RIns := (List.range j).map (MI 1)
def mkBL (j : Nat) : List RBlk := (List.range j).map (MB 1)
theorem mkL_succ (j : Nat) : mkL (j + 1) = mkL j ++ [mkN 1 j] := by simp [mkL, List.range_succ]
theorem mkIL_succ (j : Nat) : mkIL (j + 1) = mkIL j ++ [MI 1 j] := by simp [mkIL, List.range_succ]
theorem mkBL_succ (j : Nat) : mkBL (j + 1) = mkBL j ++ [MB 1 j] := by simp [mkBL, List.range_succ]
theorem mk_at {α : Type} {l : List α} {F : Nat → α} {j : Nat} (hj : j < 12) : (l ++ (List.range 12).map F)[l.length + j]? = some (F j) := by
  rw [List.getElem?_append_right (by omega), Nat.add_sub_cancel_left, List.getElem?_map, List.getElem?_range hj]
  rfl
theorem mk_old {α : Type} {l m : List α} {k : Nat} {x : α} (h : l[k]? = some x) : (l ++ m)[k]? = some x := by
  rw [List.getElem?_append_left (List.getElem?_eq_some_iff.1 h).1]; exact h
def lInt (A : Option Addr) (c : Nat) (l : List Int) : Res := row (.slice A (l.length + 12) c) 3 1 (l.length + 12) (ints (l ++ mkL 12))
def insLent (i : RIns) : Res := lInt i.aA i.aC i.args
def lIns (A : Option Addr) (c : Nat) (l : List RIns) : Res := row (.slice A (l.length + 12) c) 110 8 (l.length + 12) ((l ++ mkIL 12).flatMap RIns.cells)
def blkLent (b : RBlk) : List Res := lIns b.iA b.iC b.ins :: b.ins.map insLent
def lBlk (A : Option Addr) (c : Nat) (l : List RBlk) : Res := row (.slice A (l.length + 12) c) 49 5 (l.length + 12) ((l ++ mkBL 12).flatMap RBlk.cells)
def funLent (f : RFun) : List Res := lInt f.pA f.pC f.params :: lBlk f.bA f.bC f.blocks :: f.blocks.flatMap blkLent
theorem Reads.lentI {w : World} {B : Nat} {A : Option Addr} {l : List Int} (h : Reads w B 1 A (l.length + 12) (ints (l ++ mkL 12))) : Reads w B 1 A l.length (ints l) := by
  have := h.pre (k := l.length) (by omega)
  have e : (ints (l ++ mkL 12)).take (l.length * 1) = ints l := by
    unfold ints
    rw [List.map_append, Nat.mul_one]
    exact List.take_left' (by simp)
  rwa [e] at this
theorem Reads.lentN {w : World} {B : Nat} {A : Option Addr} {l : List RIns} (h : Reads w B 8 A (l.length + 12) ((l ++ mkIL 12).flatMap RIns.cells)) : Reads w B 8 A l.length (l.flatMap RIns.cells) := by
  have := h.pre (k := l.length) (by omega)
  have e : ((l ++ mkIL 12).flatMap RIns.cells).take (l.length * 8) = l.flatMap RIns.cells := by
    rw [List.flatMap_append]
    exact List.take_left' (flat_len RIns.len l)
  rwa [e] at this
theorem Reads.lentB {w : World} {B : Nat} {A : Option Addr} {l : List RBlk} (h : Reads w B 5 A (l.length + 12) ((l ++ mkBL 12).flatMap RBlk.cells)) : Reads w B 5 A l.length (l.flatMap RBlk.cells) := by
  have := h.pre (k := l.length) (by omega)
  have e : ((l ++ mkBL 12).flatMap RBlk.cells).take (l.length * 5) = l.flatMap RBlk.cells := by
    rw [List.flatMap_append]
    exact List.take_left' (flat_len RBlk.len l)
  rwa [e] at this
/-- Where what is lent lies. -/
structure BlkL (w : World) (B : Nat) (x : RBlk) : Prop where
  ins : Reads w B 8 x.iA (x.ins.length + 12) ((x.ins ++ mkIL 12).flatMap RIns.cells)
  ic : x.ins.length + 12 ≤ x.iC
  args : ∀ i ∈ x.ins, Reads w B 1 i.aA (i.args.length + 12) (ints (i.args ++ mkL 12))
  ac : ∀ i ∈ x.ins, i.args.length + 12 ≤ i.aC
theorem BlkL.now {w0 w : World} {B : Nat} {L : List Res} {x : RBlk} (h : BlkL w0 B x) (hh : Hp w0 B L w) : BlkL w w.heap.size x := ⟨h.ins.now hh, h.ic, fun i hi => (h.args i hi).now hh, h.ac⟩
structure LentAt (w : World) (B : Nat) (g : RFun) : Prop where
  params : Reads w B 1 g.pA (g.params.length + 12) (ints (g.params ++ mkL 12))
  pc : g.params.length + 12 ≤ g.pC
  blocks : Reads w B 5 g.bA (g.blocks.length + 12) ((g.blocks ++ mkBL 12).flatMap RBlk.cells)
  bc : g.blocks.length + 12 ≤ g.bC
  blk : ∀ b ∈ g.blocks, BlkL w B b
theorem LentAt.fun_ {w : World} {B : Nat} {g : RFun} (h : LentAt w B g) : FunAt w B g := ⟨h.params.lentI, h.blocks.lentB, fun b hb => (h.blk b hb).ins.lentN, fun b hb i hi => ((h.blk b hb).args i hi).lentI⟩
theorem LentAt.fit {w : World} {B : Nat} {g : RFun} (h : LentAt w B g) (hc : FitC g) : Fit g := ⟨hc.params, hc.plen, hc.blen, by have := h.pc; omega, by have := h.bc; omega, hc.ilen, fun b hb => by have := (h.blk b hb).ic; omega, hc.term, hc.insr, hc.alen, fun b hb i hi => by have := (h.blk b hb).ac i hi; omega, hc.argr⟩
theorem mem_blkLent {f : RFun} {b : RBlk} {r : Res} (hb : b ∈ f.blocks) (hr : r ∈ blkLent b) : r ∈ funLent f := by
  unfold funLent
  exact List.mem_cons_of_mem _ (List.mem_cons_of_mem _ (List.mem_flatMap.2 ⟨b, hb, hr⟩))
theorem LentAt.own {w0 w : World} {B : Nat} {M L : List Res} {g : RFun} (hh : Hp w0 B (M ++ L) w) (hs : ∀ r ∈ funLent g, r ∈ L) : LentAt w w.heap.size g := by
  have key : ∀ {A : Option Addr} {n c e s : Nat} {xs : List Value}, row (.slice A n c) e s n xs ∈ funLent g → Reads w w.heap.size s A n xs := fun hm => by
    obtain ⟨i, hi⟩ := List.mem_iff_getElem?.1 (hs _ hm)
    exact Reads.row hh hi
  have cap : ∀ {A : Option Addr} {n c e s : Nat} {xs : List Value}, row (.slice A n c) e s n xs ∈ funLent g → n ≤ c := fun hm => cap_row (hh.has _ (List.mem_append_right _ (hs _ hm)))
  have h1 : lInt g.pA g.pC g.params ∈ funLent g := List.mem_cons_self ..
  have h2 : lBlk g.bA g.bC g.blocks ∈ funLent g := List.mem_cons_of_mem _ (List.mem_cons_self ..)
  refine ⟨key h1, cap h1, key h2, cap h2, fun b hb => ?_⟩
  have h3 : lIns b.iA b.iC b.ins ∈ funLent g := mem_blkLent hb (List.mem_cons_self ..)
  have h4 : ∀ i ∈ b.ins, insLent i ∈ funLent g := fun i hi => mem_blkLent hb (List.mem_cons_of_mem _ (List.mem_map_of_mem hi))
  exact ⟨key h3, cap h3, fun i hi => key (h4 i hi), fun i hi => cap (h4 i hi)⟩
theorem reads_none_ {w : World} {B s : Nat} : Reads w B s none 0 [] := ⟨by simp, fun h => absurd h (by omega)⟩
section
theorem kit_mark_ct {w : World} {k i : Nat} (hk : k < 100000) (hi : i < 2 ^ 40) : Ct Tryz.prog 49 #[.int .i64 (k : Int), .int .i64 (i : Int)] w (Is (.int .i64 (mkN k i))) := by
  refine Ct.mk Tryz.func49 rfl rfl ?_
  refine Cd.seq ?_
  refine Cd.region ?_
  refine Ol.p asi ?_
  refine Ol.nil ?_
  refine Cd.seq ?_
  refine Cd.region ?_
  refine Ol.p mvi ?_
  refine Ol.p addi ?_
  refine Ol.p muli ?_
  refine Ol.p mvi ?_
  refine Ol.p addi ?_
  refine Ol.p asi ?_
  refine Ol.nil ?_
  exact Cd.ret ⟨.int .i64 _, ret1 rfl rfl, [], Keep.nil, congrArg (Value.int .i64) (by unfold mkN; omega), rfl⟩
end
section
theorem kit_markIns_ct {w : World} {k i : Nat} (hk : k < 100000) (hi : i < 2 ^ 40) : Ct Tryz.prog 119 #[.int .i64 (k : Int), .int .i64 (i : Int)] w (Is (MI k i).val) := by
  refine Ct.mk Tryz.func119 rfl rfl ?_
  refine Cd.seq ?_
  refine Cd.region ?_
  refine Ol.x (alc zr_api_Ins) ?_
  rintro _ _ ⟨g4, rfl, rfl⟩
  refine Ol.nil ?_
  refine Cd.seq ?_
  refine Cd.region ?_
  refine Ol.p mvi ?_
  refine Ol.p mvi ?_
  refine Ol.s (cl en_kit_mark (fun M w' hh => kit_mark_ct hk hi)) ?_
  refine Ol.p (bds (cs := (MI k i).cells.toArray) bs_api_Ins zr_api_Ins (hf := by kernel_rfl)) ?_
  refine Ol.s (stw (vs := (MI k i).cells.toArray) sz_api_Ins rfl (MI k i).one (i := 0) rfl rfl) ?_
  refine Ol.nil ?_
  exact Cd.ret ⟨_, retc rfl ag_api_Ins rfl (i := 0) rfl rfl, [], Keep.nil, rfl, rfl⟩
end
section
theorem kit_markBlock_ct {w : World} {k i : Nat} (hk : k < 100000) (hi : i < 2 ^ 40) : Ct Tryz.prog 80 #[.int .i64 (k : Int), .int .i64 (i : Int)] w (Is (MB k i).val) := by
  refine Ct.mk Tryz.func80 rfl rfl ?_
  refine Cd.seq ?_
  refine Cd.region ?_
  refine Ol.x (alc zr_api_Block) ?_
  rintro _ _ ⟨g4, rfl, rfl⟩
  refine Ol.nil ?_
  refine Cd.seq ?_
  refine Cd.region ?_
  refine Ol.p mvi ?_
  refine Ol.p mvi ?_
  refine Ol.s (cl en_kit_mark (fun M w' hh => kit_mark_ct hk hi)) ?_
  refine Ol.p (bds (cs := #[.int .i64 0, .int .i64 (mkN k i), .int .i64 0, .int .i64 0]) bs_api_Term zr_api_Term (hf := by kernel_rfl)) ?_
  refine Ol.p (bds (cs := (MB k i).cells.toArray) bs_api_Block zr_api_Block (hf := by kernel_rfl)) ?_
  refine Ol.s (stw (vs := (MB k i).cells.toArray) sz_api_Block rfl (MB k i).one (i := 0) rfl rfl) ?_
  refine Ol.nil ?_
  exact Cd.ret ⟨_, retc rfl ag_api_Block rfl (i := 0) rfl rfl, [], Keep.nil, rfl, rfl⟩
end
section
set_option maxHeartbeats 1000000 in
theorem kit_LentInts_ct {w : World} {A : Option Addr} {c : Nat} {l : List Int} (hl : Reads w w.heap.size 1 A l.length (ints l)) (hlen : l.length < 2 ^ 40) : Ct Tryz.prog 10 #[.slice A l.length c] w (fun v R => ∃ A' c', v = .slice A' l.length c' ∧ R = [lInt A' c' l]) := by
  refine Ct.mk Tryz.func10 rfl rfl ?_
  refine Cd.seq ?_
  refine Cd.region ?_
  refine Ol.p ass ?_
  refine Ol.nil ?_
  refine Cd.seq ?_
  refine Cd.region ?_
  refine Ol.p mvs ?_
  refine Ol.p (lens sl_L_int) ?_
  refine Ol.p addi ?_
  refine Ol.x (mks (n := 0) (c := l.length + 12) sl_L_int zr_int (hy := congrArg (Value.int .i64) (show (l.length : Int) + 12 = ((l.length + 12 : Nat) : Int) by omega))) ?_
  rintro _ _ ⟨gm, rfl, rfl⟩
  refine Ol.p ass ?_
  refine Ol.nil ?_
  rw [Nat.zero_mul, List.take_zero]
  refine Cd.seq ?_
  refine Cd.region ?_
  refine Ol.p mvs ?_
  refine Ol.p mvs ?_
  refine Ol.x (apn (i := 0) (n := 0) (xs := []) (m := l.length) sl_L_int zr_int rfl (by decide) rfl (Src.slc hl) (one_ints l) (by unfold maxLen; omega) (by omega)) ?_
  rintro _ _ ⟨A1, c1, rfl, rfl⟩
  refine Ol.p ass ?_
  refine Ol.nil ?_
  rw [Nat.zero_add, List.nil_append]
  refine Cd.seq ?_
  refine Cd.seq ?_
  refine Cd.region ?_
  refine Ol.p asi ?_
  refine Ol.nil ?_
  refine Cd.block ?_
  refine Cd.loop (fun m σ L => ∃ (j : Nat) (A' : Option Addr) (c' : Nat), m = 12 - j ∧ j ≤ 12 ∧ Has σ [(0, .slice A l.length c), (3, .slice A' (l.length + j) c'), (4, .int .i64 j)] ∧ [row (.slice A' (l.length + j) c') 3 1 (l.length + j) (ints (l ++ mkL j))] = L) (n := 12) ⟨0, A1, c1, rfl, Nat.zero_le _, ⟨rfl, rfl, rfl, trivial⟩, by rw [show mkL 0 = [] from rfl, List.append_nil]; rfl⟩ ?_
  rintro _ σ L ⟨j, A', c', rfl, hj, hs, rfl⟩
  refine Cd.has hs ?_
  clear hs
  refine Cd.seq ?_
  refine Cd.seq ?_
  refine Cd.region ?_
  refine Ol.p mvi ?_
  refine Ol.p lsi ?_
  refine Ol.nil ?_
  refine Cd.cond rfl (fun h => ?_) (fun h => ?_)
  · have hlt : j < 12 := by
      have h : decide ((j : Int) < 12) = true := h
      have := of_decide_eq_true h
      omega
    refine Cd.skip ?_
    refine Cd.seq ?_
    refine Cd.block ?_
    refine Cd.region ?_
    refine Ol.p mvs ?_
    refine Ol.p mvi ?_
    refine Ol.s (cl (v := .int .i64 (mkN 1 j)) en_kit_mark (fun M w' hh => kit_mark_ct (k := 1) (by decide) (by omega))) ?_
    refine Ol.x (bsv [.int .i64 (mkN 1 j)] sl_L_int zr_int (by simp [Value.cells])) ?_
    rintro _ _ ⟨g19, rfl, rfl⟩
    refine Ol.x (apn (i := 1) (m := 1) sl_L_int zr_int rfl (by decide) rfl (Src.row (i := 0) rfl rfl) (by intro u hu; simp at hu; subst hu; rfl) (by unfold maxLen; omega) (by omega)) ?_
    rintro _ _ ⟨A2, c2, rfl, rfl⟩
    refine Ol.p ass ?_
    refine Ol.keep (.sub (.cons _ (List.Sublist.refl _))) ?_
    refine Ol.nil ?_
    refine Cd.region ?_
    refine Ol.p mvi ?_
    refine Ol.p addi ?_
    refine Ol.p asi ?_
    refine Ol.nil ?_
    refine ⟨12 - (j + 1), by omega, j + 1, A2, c2, rfl, by omega, ⟨rfl, rfl, rfl, trivial⟩, ?_⟩
    rw [mkL_succ, ← List.append_assoc, show ints (l ++ mkL j ++ [mkN 1 j]) = ints (l ++ mkL j) ++ [.int .i64 (mkN 1 j)] by simp [ints]]
    rfl
  have hje : j = 12 := by
    have h : decide ((j : Int) < 12) = false := h
    have := of_decide_eq_false h
    omega
  subst hje
  refine Cd.exit (id := 0) ?_
  refine Cd.capl (i := 0) (A := A') (n := l.length + 12) (c := c') rfl fun hcap => ?_
  refine Cd.seq ?_
  refine Cd.region ?_
  refine Ol.p mvs ?_
  refine Ol.p mvs ?_
  refine Ol.p (lens sl_L_int) ?_
  refine Ol.p (slh (A := A') (n := l.length + 12) (c := c') (h := l.length) sl_L_int (by omega)) ?_
  refine Ol.p ass ?_
  refine Ol.nil ?_
  exact Cd.ret ⟨_, ret1 rfl rfl, _, .all, A', c', rfl, rfl⟩
end
section
theorem kit_LentIns_ct {w : World} {i : RIns} (hl : Reads w w.heap.size 1 i.aA i.args.length (ints i.args)) (hlen : i.args.length < 2 ^ 40) : Ct Tryz.prog 135 #[i.val] w (fun v R => ∃ A c, v = (i.at_ A c).val ∧ R = [insLent (i.at_ A c)]) := by
  refine Ct.mk Tryz.func135 rfl rfl ?_
  refine Cd.seq ?_
  refine Cd.region ?_
  refine Ol.x bxg ?_
  rintro _ _ ⟨g1, rfl, rfl⟩
  refine Ol.x (alc zr_api_Ins) ?_
  rintro _ _ ⟨g2, rfl, rfl⟩
  refine Ol.nil ?_
  refine Cd.seq ?_
  refine Cd.region ?_
  refine Ol.p (fdl fd_api_Ins_6) ?_
  refine Ol.p (ld (v := .slice i.aA i.args.length i.aC) one_L_int (Rd.blk (i := 1) rfl rfl)) ?_
  refine Ol.x (sp_call en_kit_LentInts (fun M w' hh => kit_LentInts_ct (l := i.args) (hl.now hh) hlen)) ?_
  rintro _ _ ⟨_, rfl, A', c', rfl, rfl⟩
  refine Ol.p (fdl fd_api_Ins_6) ?_
  refine Ol.s (sto (v := .slice A' i.args.length c') (i := 2) (k := 0 + 6) (.inr sz_L_int) rfl rfl rfl (by simp [RIns.cells]) rfl) ?_
  refine Ol.nil ?_
  refine Cd.seq ?_
  refine Cd.region ?_
  refine Ol.p (ldw (cs := (i.at_ A' c').cells.toArray) ag_api_Ins (i := 2) rfl rfl) ?_
  refine Ol.s (stw (vs := (i.at_ A' c').cells.toArray) sz_api_Ins rfl (i.at_ A' c').one (i := 1) rfl rfl) ?_
  refine Ol.nil ?_
  exact Cd.ret ⟨_, retc rfl ag_api_Ins rfl (i := 1) rfl rfl, _, .sub (.cons_cons _ (.cons _ (.cons _ .slnil))), A', c', rfl, rfl⟩
end
section
def NewIlL (l : List RIns) : Value → List Res → Prop := fun v R => ∃ (l' : List RIns) (A : Option Addr) (c : Nat) (X : List Res), l'.map RIns.bare = l.map RIns.bare ∧ v = .slice A l'.length c ∧ X.Perm (l'.map insLent) ∧ R = lIns A c l' :: X
set_option maxHeartbeats 2000000 in
theorem kit_LentRow_ct {w : World} {A : Option Addr} {c : Nat} {l : List RIns} (hl : Reads w w.heap.size 8 A l.length (l.flatMap RIns.cells)) (ha : ∀ i ∈ l, Reads w w.heap.size 1 i.aA i.args.length (ints i.args)) (hlen : l.length < 2 ^ 36) (hal : ∀ i ∈ l, i.args.length < 2 ^ 40) : Ct Tryz.prog 108 #[.slice A l.length c] w (NewIlL l) := by
  refine Ct.mk Tryz.func108 rfl rfl ?_
  refine Cd.seq ?_
  refine Cd.region ?_
  refine Ol.p ass ?_
  refine Ol.nil ?_
  refine Cd.seq ?_
  refine Cd.region ?_
  refine Ol.p mvs ?_
  refine Ol.p (lens sl_L_api_Ins) ?_
  refine Ol.p addi ?_
  refine Ol.x (mks (n := 0) (c := l.length + 12) sl_L_api_Ins zr_api_Ins (hy := congrArg (Value.int .i64) (show (l.length : Int) + 12 = ((l.length + 12 : Nat) : Int) by omega))) ?_
  rintro _ _ ⟨gm, rfl, rfl⟩
  refine Ol.p ass ?_
  refine Ol.nil ?_
  rw [Nat.zero_mul, List.take_zero]
  refine Cd.mid (fun σ' L' => ∃ (l' : List RIns) (A' : Option Addr) (c' : Nat) (X : List Res), l'.map RIns.bare = l.map RIns.bare ∧ l'.length = l.length ∧ X.Perm (l'.map insLent) ∧ Has σ' [(0, .slice A l.length c), (3, .slice A' l'.length c')] ∧ row (.slice A' l'.length c') 110 8 l'.length (l'.flatMap RIns.cells) :: X = L') ?_ ?_
  · refine Cd.seq ?_
    refine Cd.region ?_
    refine Ol.p asi ?_
    refine Ol.nil ?_
    refine Cd.block ?_
    refine Cd.loop (fun m σ L => ∃ (k : Nat) (l' : List RIns) (A' : Option Addr) (c' : Nat) (X : List Res), m = l.length - k ∧ k ≤ l.length ∧ l'.map RIns.bare = (l.take k).map RIns.bare ∧ X.Perm (l'.map insLent) ∧ Has σ [(0, .slice A l.length c), (3, .slice A' l'.length c'), (4, .int .i64 k)] ∧ row (.slice A' l'.length c') 110 8 l'.length (l'.flatMap RIns.cells) :: X = L) (n := l.length) ⟨0, [], some ⟨gm, 0, none⟩, l.length + 12, [], rfl, Nat.zero_le _, rfl, .refl _, ⟨rfl, rfl, rfl, trivial⟩, rfl⟩ ?_
    rintro _ σ L ⟨k, l', A', c', X, rfl, hk, hbare, hX, hs, rfl⟩
    have hkl : l'.length = k := by
      have := congrArg List.length hbare
      simp at this; omega
    refine Cd.has hs ?_
    clear hs
    refine Cd.seq ?_
    refine Cd.seq ?_
    refine Cd.region ?_
    refine Ol.p mvi ?_
    refine Ol.p mvs ?_
    refine Ol.p (lens sl_L_api_Ins) ?_
    refine Ol.p lsi ?_
    refine Ol.nil ?_
    refine Cd.cond rfl (fun h => ?_) (fun h => ?_)
    · have hlt : k < l.length := by
        simp only [decide_eq_true_eq] at h; omega
      obtain ⟨i, hi⟩ : ∃ i, l[k]? = some i := ⟨_, List.getElem?_eq_getElem hlt⟩
      have him := List.mem_of_getElem? hi
      have hial := hal i him
      refine Cd.skip ?_
      refine Cd.seq ?_
      refine Cd.block ?_
      refine Cd.seq ?_
      refine Cd.region ?_
      refine Ol.p mvs ?_
      refine Ol.p mvi ?_
      refine Ol.p (ixn (ix := k) sl_L_api_Ins (Som.slc hl (by omega))) ?_
      refine Ol.p (lds (es := i.cells) ag_api_Ins hl i.len (fun j u hu => ins_cell hi hu)) ?_
      refine Ol.x (sp_call en_kit_LentIns (fun M w' hh => kit_LentIns_ct ((ha i him).now hh) hial)) ?_
      rintro _ _ ⟨_, rfl, Ai, ci, rfl, rfl⟩
      refine Ol.x (alc zr_api_Ins) ?_
      rintro _ _ ⟨g5, rfl, rfl⟩
      refine Ol.s (stw (vs := (i.at_ Ai ci).cells.toArray) sz_api_Ins rfl (i.at_ Ai ci).one (i := 0) rfl rfl) ?_
      refine Ol.nil ?_
      refine Cd.region ?_
      refine Ol.p mvs ?_
      refine Ol.p (ldw (cs := (i.at_ Ai ci).cells.toArray) ag_api_Ins (i := 0) rfl rfl) ?_
      refine Ol.x (bs1 (cs := (i.at_ Ai ci).cells) sl_L_api_Ins zr_api_Ins rfl rfl) ?_
      rintro _ _ ⟨g19, rfl, rfl⟩
      refine Ol.x (apn (i := 3) (m := 1) sl_L_api_Ins zr_api_Ins rfl (by decide) rfl (Src.row (i := 0) rfl rfl) (i.at_ Ai ci).one (by unfold maxLen; omega) (by omega)) ?_
      rintro _ _ ⟨A2, c2, rfl, rfl⟩
      refine Ol.p ass ?_
      refine Ol.keep (keep_count (L' := row (.slice A2 (l'.length + 1) c2) 110 8 (l'.length + 1) (l'.flatMap RIns.cells ++ (i.at_ Ai ci).cells) :: insLent (i.at_ Ai ci) :: X) [row (.slice (some ⟨g19, 0, none⟩) 1 1) 110 8 1 (i.at_ Ai ci).cells, blk g5 (.cells (i.at_ Ai ci).cells.toArray 110)] fun _ x => by simp only [List.set_cons_succ, List.set_cons_zero, List.count_append, List.count_cons, List.count_nil, List.cons_append, List.nil_append]; omega) ?_
      refine Ol.nil ?_
      refine Cd.region ?_
      refine Ol.p mvi ?_
      refine Ol.p addi ?_
      refine Ol.p asi ?_
      refine Ol.nil ?_
      have e1 : l'.length + 1 = (l' ++ [i.at_ Ai ci]).length := by simp
      have e2 : l'.flatMap RIns.cells ++ (i.at_ Ai ci).cells = (l' ++ [i.at_ Ai ci]).flatMap RIns.cells := by simp
      rw [e1, e2]
      refine ⟨l.length - (k + 1), by omega, k + 1, l' ++ [i.at_ Ai ci], A2, c2, insLent (i.at_ Ai ci) :: X, rfl, by omega, ?_, ?_, ⟨rfl, rfl, rfl, trivial⟩, rfl⟩
      · rw [take_snoc_ hi, List.map_append, List.map_append, hbare]; rfl
      · rw [List.map_append]
        exact ((hX.cons _).trans (List.perm_append_singleton _ _).symm)
    have hke : k = l.length := by
      simp only [decide_eq_false_iff_not] at h; omega
    rw [hke, List.take_of_length_le (Nat.le_refl _)] at hbare
    refine Cd.exit (id := 0) ?_
    exact ⟨l', A', c', X, hbare, by omega, hX, ⟨rfl, rfl, trivial⟩, rfl⟩
  rintro σ' _ ⟨l', A', c', X, hbare, hll, hX, hs', rfl⟩
  refine Cd.has hs' ?_
  clear hs'
  refine Cd.seq ?_
  refine Cd.seq ?_
  refine Cd.region ?_
  refine Ol.p asi ?_
  refine Ol.nil ?_
  refine Cd.block ?_
  refine Cd.loop (fun m σ L => ∃ (j : Nat) (A' : Option Addr) (c' : Nat), m = 12 - j ∧ j ≤ 12 ∧ Has σ [(0, .slice A l.length c), (3, .slice A' (l'.length + j) c'), (6, .int .i64 j)] ∧ row (.slice A' (l'.length + j) c') 110 8 (l'.length + j) ((l' ++ mkIL j).flatMap RIns.cells) :: X = L) (n := 12) ⟨0, A', c', rfl, Nat.zero_le _, ⟨rfl, rfl, rfl, trivial⟩, by rw [show mkIL 0 = [] from rfl, List.append_nil]; rfl⟩ ?_
  rintro _ σ L ⟨j, A', c', rfl, hj, hs, rfl⟩
  refine Cd.has hs ?_
  clear hs
  refine Cd.seq ?_
  refine Cd.seq ?_
  refine Cd.region ?_
  refine Ol.p mvi ?_
  refine Ol.p lsi ?_
  refine Ol.nil ?_
  refine Cd.cond rfl (fun h => ?_) (fun h => ?_)
  · have hlt : j < 12 := by
      have h : decide ((j : Int) < 12) = true := h
      have := of_decide_eq_true h
      omega
    refine Cd.skip ?_
    refine Cd.seq ?_
    refine Cd.block ?_
    refine Cd.region ?_
    refine Ol.p mvs ?_
    refine Ol.p mvi ?_
    refine Ol.s (cl (v := (MI 1 j).val) en_kit_markIns (fun M w' hh => kit_markIns_ct (k := 1) (by decide) (by omega))) ?_
    refine Ol.x (bs1 (v := (MI 1 j).val) (cs := (MI 1 j).cells) sl_L_api_Ins zr_api_Ins rfl rfl) ?_
    rintro _ _ ⟨g33, rfl, rfl⟩
    refine Ol.x (apn (i := 1) (m := 1) sl_L_api_Ins zr_api_Ins rfl (by decide) rfl (Src.row (i := 0) rfl rfl) (MI 1 j).one (by unfold maxLen; omega) (by omega)) ?_
    rintro _ _ ⟨A2, c2, rfl, rfl⟩
    refine Ol.p ass ?_
    refine Ol.keep (.sub (.cons _ (List.Sublist.refl _))) ?_
    refine Ol.nil ?_
    refine Cd.region ?_
    refine Ol.p mvi ?_
    refine Ol.p addi ?_
    refine Ol.p asi ?_
    refine Ol.nil ?_
    refine ⟨12 - (j + 1), by omega, j + 1, A2, c2, rfl, by omega, ⟨rfl, rfl, rfl, trivial⟩, ?_⟩
    rw [mkIL_succ, ← List.append_assoc, List.flatMap_append (xs := l' ++ mkIL j), List.flatMap_singleton]
    rfl
  have hje : j = 12 := by
    have h : decide ((j : Int) < 12) = false := h
    have := of_decide_eq_false h
    omega
  subst hje
  refine Cd.exit (id := 2) ?_
  refine Cd.capl (i := 0) (A := A') (n := l'.length + 12) (c := c') rfl fun hcap => ?_
  refine Cd.seq ?_
  refine Cd.region ?_
  refine Ol.p mvs ?_
  refine Ol.p mvs ?_
  refine Ol.p (lens sl_L_api_Ins) ?_
  refine Ol.p (slh (A := A') (n := l'.length + 12) (c := c') (h := l.length) sl_L_api_Ins (by omega)) ?_
  refine Ol.p ass ?_
  refine Ol.nil ?_
  exact Cd.ret ⟨.slice A' l.length c', ret1 rfl rfl, _, .all, l', A', c', X, hbare, (show Value.slice A' l.length c' = .slice A' l'.length c' by rw [hll]), hX, rfl⟩
end
section
theorem kit_LentBlock_ct {w : World} {b : RBlk} (hl : Reads w w.heap.size 8 b.iA b.ins.length (b.ins.flatMap RIns.cells)) (ha : ∀ i ∈ b.ins, Reads w w.heap.size 1 i.aA i.args.length (ints i.args)) (hlen : b.ins.length < 2 ^ 36) (hal : ∀ i ∈ b.ins, i.args.length < 2 ^ 40) : Ct Tryz.prog 79 #[b.val] w (fun v R => ∃ b' : RBlk, b'.bare = b.bare ∧ v = b'.val ∧ R.Perm (blkLent b')) := by
  refine Ct.mk Tryz.func79 rfl rfl ?_
  refine Cd.seq ?_
  refine Cd.region ?_
  refine Ol.x bxg ?_
  rintro _ _ ⟨g1, rfl, rfl⟩
  refine Ol.x (alc zr_api_Block) ?_
  rintro _ _ ⟨g2, rfl, rfl⟩
  refine Ol.nil ?_
  refine Cd.seq ?_
  refine Cd.region ?_
  refine Ol.p (fdl fd_api_Block_0) ?_
  refine Ol.p (ld (v := .slice b.iA b.ins.length b.iC) one_L_api_Ins (Rd.blk (i := 1) rfl rfl)) ?_
  refine Ol.x (sp_call en_kit_LentRow (fun M w' hh => kit_LentRow_ct (l := b.ins) (hl.now hh) (fun i hi => (ha i hi).now hh) hlen hal)) ?_
  rintro _ _ ⟨_, rfl, l', A', c', X, hb, rfl, hX, rfl⟩
  refine Ol.keep Keep.comm ?_
  refine Ol.p (fdl fd_api_Block_0) ?_
  refine Ol.s (sto (v := .slice A' l'.length c') (i := 1) (k := 0 + 0) (.inr sz_L_api_Ins) rfl rfl rfl (by simp [RBlk.cells]) rfl) ?_
  refine Ol.nil ?_
  refine Cd.seq ?_
  refine Cd.region ?_
  refine Ol.p (ldw (cs := (b.at_ A' c' l').cells.toArray) ag_api_Block (i := 1) rfl rfl) ?_
  refine Ol.s (stw (vs := (b.at_ A' c' l').cells.toArray) sz_api_Block rfl (b.at_ A' c' l').one (i := 0) rfl rfl) ?_
  refine Ol.nil ?_
  exact Cd.ret ⟨_, retc rfl ag_api_Block rfl (i := 0) rfl rfl, _, .sub (.cons _ (.cons _ (List.Sublist.refl _))), b.at_ A' c' l', RBlk.at_bare hb, rfl, hX.cons _⟩
end
section
def NewBlL (l : List RBlk) : Value → List Res → Prop := fun v R => ∃ (l' : List RBlk) (A : Option Addr) (c : Nat) (X : List Res), l'.map RBlk.bare = l.map RBlk.bare ∧ v = .slice A l'.length c ∧ X.Perm (l'.flatMap blkLent) ∧ R = lBlk A c l' :: X
set_option maxHeartbeats 2000000 in
theorem kit_LentBlocks_ct {w : World} {A : Option Addr} {c : Nat} {l : List RBlk} (hl : BlksIn w w.heap.size A l) (hal : ∀ b ∈ l, ∀ i ∈ b.ins, i.args.length < 2 ^ 40) : Ct Tryz.prog 48 #[.slice A l.length c] w (NewBlL l) := by
  have hlen := hl.len
  refine Ct.mk Tryz.func48 rfl rfl ?_
  refine Cd.seq ?_
  refine Cd.region ?_
  refine Ol.p ass ?_
  refine Ol.nil ?_
  refine Cd.seq ?_
  refine Cd.region ?_
  refine Ol.p mvs ?_
  refine Ol.p (lens sl_L_api_Block) ?_
  refine Ol.p addi ?_
  refine Ol.x (mks (n := 0) (c := l.length + 12) sl_L_api_Block zr_api_Block (hy := congrArg (Value.int .i64) (show (l.length : Int) + 12 = ((l.length + 12 : Nat) : Int) by omega))) ?_
  rintro _ _ ⟨gm, rfl, rfl⟩
  refine Ol.p ass ?_
  refine Ol.nil ?_
  rw [Nat.zero_mul, List.take_zero]
  refine Cd.mid (fun σ' L' => ∃ (l' : List RBlk) (A' : Option Addr) (c' : Nat) (X : List Res), l'.map RBlk.bare = l.map RBlk.bare ∧ l'.length = l.length ∧ X.Perm (l'.flatMap blkLent) ∧ Has σ' [(0, .slice A l.length c), (3, .slice A' l'.length c')] ∧ row (.slice A' l'.length c') 49 5 l'.length (l'.flatMap RBlk.cells) :: X = L') ?_ ?_
  · refine Cd.seq ?_
    refine Cd.region ?_
    refine Ol.p asi ?_
    refine Ol.nil ?_
    refine Cd.block ?_
    refine Cd.loop (fun m σ L => ∃ (k : Nat) (l' : List RBlk) (A' : Option Addr) (c' : Nat) (X : List Res), m = l.length - k ∧ k ≤ l.length ∧ l'.map RBlk.bare = (l.take k).map RBlk.bare ∧ X.Perm (l'.flatMap blkLent) ∧ Has σ [(0, .slice A l.length c), (3, .slice A' l'.length c'), (4, .int .i64 k)] ∧ row (.slice A' l'.length c') 49 5 l'.length (l'.flatMap RBlk.cells) :: X = L) (n := l.length) ⟨0, [], some ⟨gm, 0, none⟩, l.length + 12, [], rfl, Nat.zero_le _, rfl, .refl _, ⟨rfl, rfl, rfl, trivial⟩, rfl⟩ ?_
    rintro _ σ L ⟨k, l', A', c', X, rfl, hk, hbare, hX, hs, rfl⟩
    have hkl : l'.length = k := by
      have := congrArg List.length hbare
      simp at this; omega
    refine Cd.has hs ?_
    clear hs
    refine Cd.seq ?_
    refine Cd.seq ?_
    refine Cd.region ?_
    refine Ol.p mvi ?_
    refine Ol.p mvs ?_
    refine Ol.p (lens sl_L_api_Block) ?_
    refine Ol.p lsi ?_
    refine Ol.nil ?_
    refine Cd.cond rfl (fun h => ?_) (fun h => ?_)
    · have hlt : k < l.length := by
        simp only [decide_eq_true_eq] at h; omega
      obtain ⟨b, hb⟩ : ∃ b, l[k]? = some b := ⟨_, List.getElem?_eq_getElem hlt⟩
      have hbm := List.mem_of_getElem? hb
      refine Cd.skip ?_
      refine Cd.seq ?_
      refine Cd.block ?_
      refine Cd.seq ?_
      refine Cd.region ?_
      refine Ol.p mvs ?_
      refine Ol.p mvi ?_
      refine Ol.p (ixn (ix := k) sl_L_api_Block (Som.slc hl.row (by omega))) ?_
      refine Ol.p (lds (es := b.cells) ag_api_Block hl.row b.len (fun j u hu => blk_cell hb hu)) ?_
      refine Ol.x (sp_call en_kit_LentBlock (fun M w' hh => kit_LentBlock_ct (b := b) ((hl.ins b hbm).now hh) (fun i hi => (hl.args b hbm i hi).now hh) (hl.ilen b hbm) (hal b hbm))) ?_
      rintro _ _ ⟨Y, rfl, b', hb', rfl, hY⟩
      refine Ol.keep (L' := [row (.slice A' l'.length c') 49 5 l'.length (l'.flatMap RBlk.cells)] ++ (X ++ blkLent b')) ⟨[], perm_count fun _ x => by
        have := hY.count_eq x
        simp only [List.count_append, List.count_cons, List.cons_append, List.nil_append, List.append_nil]; omega⟩ ?_
      refine Ol.x (alc zr_api_Block) ?_
      rintro _ _ ⟨g5, rfl, rfl⟩
      refine Ol.s (stw (vs := b'.cells.toArray) sz_api_Block rfl b'.one (i := 0) rfl rfl) ?_
      refine Ol.nil ?_
      refine Cd.region ?_
      refine Ol.p mvs ?_
      refine Ol.p (ldw (cs := b'.cells.toArray) ag_api_Block (i := 0) rfl rfl) ?_
      refine Ol.x (bs1 (cs := b'.cells) sl_L_api_Block zr_api_Block rfl rfl) ?_
      rintro _ _ ⟨g19, rfl, rfl⟩
      refine Ol.x (apn (i := 2) (m := 1) sl_L_api_Block zr_api_Block rfl (by decide) rfl (Src.row (i := 0) rfl rfl) b'.one (by unfold maxLen; omega) (by omega)) ?_
      rintro _ _ ⟨A2, c2, rfl, rfl⟩
      refine Ol.p ass ?_
      refine Ol.keep (.sub (.cons _ (.cons _ (List.Sublist.refl _)))) ?_
      refine Ol.nil ?_
      refine Cd.region ?_
      refine Ol.p mvi ?_
      refine Ol.p addi ?_
      refine Ol.p asi ?_
      refine Ol.nil ?_
      have e1 : l'.length + 1 = (l' ++ [b']).length := by simp
      have e2 : l'.flatMap RBlk.cells ++ b'.cells = (l' ++ [b']).flatMap RBlk.cells := by simp
      rw [e1, e2]
      refine ⟨l.length - (k + 1), by omega, k + 1, l' ++ [b'], A2, c2, X ++ blkLent b', rfl, by omega, ?_, ?_, ⟨rfl, rfl, rfl, trivial⟩, rfl⟩
      · rw [take_snoc_ hb, List.map_append, List.map_append, hbare]; simp [hb']
      · rw [List.flatMap_append]
        refine List.Perm.append hX ?_
        simp
    have hke : k = l.length := by
      simp only [decide_eq_false_iff_not] at h; omega
    rw [hke, List.take_of_length_le (Nat.le_refl _)] at hbare
    refine Cd.exit (id := 0) ?_
    exact ⟨l', A', c', X, hbare, by omega, hX, ⟨rfl, rfl, trivial⟩, rfl⟩
  rintro σ' _ ⟨l', A', c', X, hbare, hll, hX, hs', rfl⟩
  refine Cd.has hs' ?_
  clear hs'
  refine Cd.seq ?_
  refine Cd.seq ?_
  refine Cd.region ?_
  refine Ol.p asi ?_
  refine Ol.nil ?_
  refine Cd.block ?_
  refine Cd.loop (fun m σ L => ∃ (j : Nat) (A' : Option Addr) (c' : Nat), m = 12 - j ∧ j ≤ 12 ∧ Has σ [(0, .slice A l.length c), (3, .slice A' (l'.length + j) c'), (6, .int .i64 j)] ∧ row (.slice A' (l'.length + j) c') 49 5 (l'.length + j) ((l' ++ mkBL j).flatMap RBlk.cells) :: X = L) (n := 12) ⟨0, A', c', rfl, Nat.zero_le _, ⟨rfl, rfl, rfl, trivial⟩, by rw [show mkBL 0 = [] from rfl, List.append_nil]; rfl⟩ ?_
  rintro _ σ L ⟨j, A', c', rfl, hj, hs, rfl⟩
  refine Cd.has hs ?_
  clear hs
  refine Cd.seq ?_
  refine Cd.seq ?_
  refine Cd.region ?_
  refine Ol.p mvi ?_
  refine Ol.p lsi ?_
  refine Ol.nil ?_
  refine Cd.cond rfl (fun h => ?_) (fun h => ?_)
  · have hlt : j < 12 := by
      have h : decide ((j : Int) < 12) = true := h
      have := of_decide_eq_true h
      omega
    refine Cd.skip ?_
    refine Cd.seq ?_
    refine Cd.block ?_
    refine Cd.region ?_
    refine Ol.p mvs ?_
    refine Ol.p mvi ?_
    refine Ol.s (cl (v := (MB 1 j).val) en_kit_markBlock (fun M w' hh => kit_markBlock_ct (k := 1) (by decide) (by omega))) ?_
    refine Ol.x (bs1 (v := (MB 1 j).val) (cs := (MB 1 j).cells) sl_L_api_Block zr_api_Block rfl rfl) ?_
    rintro _ _ ⟨g33, rfl, rfl⟩
    refine Ol.x (apn (i := 1) (m := 1) sl_L_api_Block zr_api_Block rfl (by decide) rfl (Src.row (i := 0) rfl rfl) (MB 1 j).one (by unfold maxLen; omega) (by omega)) ?_
    rintro _ _ ⟨A2, c2, rfl, rfl⟩
    refine Ol.p ass ?_
    refine Ol.keep (.sub (.cons _ (List.Sublist.refl _))) ?_
    refine Ol.nil ?_
    refine Cd.region ?_
    refine Ol.p mvi ?_
    refine Ol.p addi ?_
    refine Ol.p asi ?_
    refine Ol.nil ?_
    refine ⟨12 - (j + 1), by omega, j + 1, A2, c2, rfl, by omega, ⟨rfl, rfl, rfl, trivial⟩, ?_⟩
    rw [mkBL_succ, ← List.append_assoc, List.flatMap_append (xs := l' ++ mkBL j), List.flatMap_singleton]
    rfl
  have hje : j = 12 := by
    have h : decide ((j : Int) < 12) = false := h
    have := of_decide_eq_false h
    omega
  subst hje
  refine Cd.exit (id := 2) ?_
  refine Cd.capl (i := 0) (A := A') (n := l'.length + 12) (c := c') rfl fun hcap => ?_
  refine Cd.seq ?_
  refine Cd.region ?_
  refine Ol.p mvs ?_
  refine Ol.p mvs ?_
  refine Ol.p (lens sl_L_api_Block) ?_
  refine Ol.p (slh (A := A') (n := l'.length + 12) (c := c') (h := l.length) sl_L_api_Block (by omega)) ?_
  refine Ol.p ass ?_
  refine Ol.nil ?_
  exact Cd.ret ⟨.slice A' l.length c', ret1 rfl rfl, _, .all, l', A', c', X, hbare, (show Value.slice A' l.length c' = .slice A' l'.length c' by rw [hll]), hX, rfl⟩
end
section
theorem kit_LentFunc_ct {w : World} {f : RFun} (hf : FunAt w w.heap.size f) (hp : f.params.length < 2 ^ 40) (hl : BlksIn w w.heap.size f.bA f.blocks) (hal : ∀ b ∈ f.blocks, ∀ i ∈ b.ins, i.args.length < 2 ^ 40) : Ct Tryz.prog 9 #[f.val] w (fun v R => ∃ g : RFun, g.bare = f.bare ∧ v = g.val ∧ R.Perm (funLent g)) := by
  refine Ct.mk Tryz.func9 rfl rfl ?_
  refine Cd.seq ?_
  refine Cd.region ?_
  refine Ol.x bxg ?_
  rintro _ _ ⟨g1, rfl, rfl⟩
  refine Ol.x (alc zr_api_Func) ?_
  rintro _ _ ⟨g2, rfl, rfl⟩
  refine Ol.nil ?_
  refine Cd.seq ?_
  refine Cd.region ?_
  refine Ol.p (fdl fd_api_Func_0) ?_
  refine Ol.p (ld (v := .slice f.pA f.params.length f.pC) one_L_int (Rd.blk (i := 1) rfl rfl)) ?_
  refine Ol.x (sp_call en_kit_LentInts (fun M w' hh => kit_LentInts_ct (l := f.params) (hf.params.now hh) hp)) ?_
  rintro _ _ ⟨_, rfl, A', c', rfl, rfl⟩
  refine Ol.p (fdl fd_api_Func_0) ?_
  refine Ol.s (sto (v := .slice A' f.params.length c') (i := 2) (k := 0 + 0) (.inr sz_L_int) rfl rfl rfl (by simp [RFun.cells]) rfl) ?_
  refine Ol.nil ?_
  refine Cd.seq ?_
  refine Cd.region ?_
  refine Ol.p (fdl fd_api_Func_1) ?_
  refine Ol.p (ld (v := .slice f.bA f.blocks.length f.bC) one_L_api_Block (Rd.blk (i := 2) rfl rfl)) ?_
  refine Ol.x (sp_call en_kit_LentBlocks (fun M w' hh => kit_LentBlocks_ct (l := f.blocks) (hl.now hh) hal)) ?_
  rintro _ _ ⟨_, rfl, l', A2, c2, X, hb, rfl, hX, rfl⟩
  refine Ol.keep Keep.comm ?_
  obtain ⟨g, hg⟩ : ∃ g : RFun, g = ⟨A', c', f.params, A2, c2, l'⟩ := ⟨_, rfl⟩
  refine Ol.p (fdl fd_api_Func_1) ?_
  refine Ol.s (sto (v := .slice A2 l'.length c2) (i := 2) (k := 0 + 1) (.inr sz_L_api_Block) rfl rfl rfl (by simp [RFun.cells]) rfl) ?_
  refine Ol.nil ?_
  refine Cd.seq ?_
  refine Cd.region ?_
  refine Ol.p (ldw (cs := #[.slice A' f.params.length c', .slice A2 l'.length c2]) ag_api_Func (i := 2) rfl rfl) ?_
  refine Ol.s (stw (vs := #[.slice A' f.params.length c', .slice A2 l'.length c2]) sz_api_Func rfl (by intro u hu; simp at hu; rcases hu with rfl | rfl <;> rfl) (i := 1) rfl rfl) ?_
  refine Ol.nil ?_
  refine Cd.ret ⟨_, retc rfl ag_api_Func rfl (i := 1) rfl rfl, _, .sub (.cons_cons _ (.cons _ (.cons _ (List.Sublist.refl _)))), g, ?_, by rw [hg]; rfl, ?_⟩
  · rw [hg]
    unfold RFun.bare
    simp only [hb]
  · rw [hg]
    exact (hX.cons _).cons _
end
section
set_option maxHeartbeats 2000000 in
theorem kit_KeptInts_ct {w : World} {A B : Option Addr} {c d : Nat} {l : List Int} (hro : Reads w w.heap.size 1 A (l.length + 12) (ints (l ++ mkL 12))) (hc : l.length + 12 ≤ c) (hl : Reads w w.heap.size 1 B l.length (ints l)) (hlen : l.length < 2 ^ 40) : Ct Tryz.prog 28 #[.slice A l.length c, .slice B l.length d] w (Is (.bool true)) := by
  obtain ⟨l', hl'⟩ : ∃ l', l' = l := ⟨_, rfl⟩
  have hll : l'.length = l.length := by rw [hl']
  rw [show (Value.slice A l.length c) = .slice A l'.length c by rw [hll]]
  refine Ct.mk Tryz.func28 rfl rfl ?_
  refine Cd.seq ?_
  refine Cd.region ?_
  refine Ol.p asb ?_
  refine Ol.nil ?_
  refine Cd.seq ?_
  refine Cd.seq ?_
  refine Cd.region ?_
  refine Ol.p mvs ?_
  refine Ol.p (lens sl_L_int) ?_
  refine Ol.p mvs ?_
  refine Ol.p (lens sl_L_int) ?_
  refine Ol.p nei ?_
  refine Ol.nil ?_
  refine Cd.cond rfl (fun h => ?_) (fun _ => ?_)
  · exfalso
    have h : (!decide ((l'.length : Int) = (l.length : Int))) = true := h
    rw [decide_eq_true (by omega)] at h
    cases h
  refine Cd.skip ?_
  refine Cd.seq ?_
  refine Cd.region ?_
  refine Ol.p mvs ?_
  refine Ol.p mvs ?_
  refine Ol.p (lens sl_L_int) ?_
  refine Ol.p addi ?_
  refine Ol.p (slh (A := A) (c := c) (h := l.length + 12) sl_L_int (by omega) (hy := congrArg (Value.int .i64) (show (l.length : Int) + 12 = ((l.length + 12 : Nat) : Int) by omega))) ?_
  refine Ol.p ass ?_
  refine Ol.nil ?_
  refine Cd.seq ?_
  refine Cd.seq ?_
  refine Cd.region ?_
  refine Ol.p asi ?_
  refine Ol.nil ?_
  refine Cd.block ?_
  refine Cd.loop (fun m σ L => ∃ k, m = l.length + 12 - k ∧ k ≤ l.length + 12 ∧ Has σ [(1, .slice B l.length d), (5, .slice A (l.length + 12) c), (6, .int .i64 k)] ∧ [] = L) (n := l.length + 12) ⟨0, rfl, Nat.zero_le _, ⟨rfl, rfl, rfl, trivial⟩, rfl⟩ ?_
  rintro _ σ L ⟨k, rfl, hk, hs, rfl⟩
  refine Cd.has hs ?_
  clear hs
  refine Cd.seq ?_
  refine Cd.seq ?_
  refine Cd.region ?_
  refine Ol.p mvi ?_
  refine Ol.p mvs ?_
  refine Ol.p (lens sl_L_int) ?_
  refine Ol.p lsi ?_
  refine Ol.nil ?_
  refine Cd.cond rfl (fun h => ?_) (fun h => ?_)
  · have hlt : k < l.length + 12 := by
      have h : decide ((k : Int) < ((l.length + 12 : Nat) : Int)) = true := h
      have := of_decide_eq_true h
      omega
    refine Cd.skip ?_
    refine Cd.seq ?_
    refine Cd.block ?_
    refine Cd.mid (fun σ' L' => Has σ' [(1, .slice B l.length d), (5, .slice A (l.length + 12) c), (6, .int .i64 k), (57, .bool false)] ∧ [] = L') ?_ ?_
    · cases q4 : decide ((k : Int) < (l.length : Int)) with
      | true =>
        have hkl : k < l.length := by have := of_decide_eq_true q4; omega
        have q20 : decide ((l.length : Int) ≤ (k : Int)) = false := decide_eq_false (by omega)
        obtain ⟨x, hx⟩ : ∃ x, l'[k]? = some x := ⟨_, List.getElem?_eq_getElem (by omega)⟩
        obtain ⟨y, hy⟩ : ∃ y, l[k]? = some y := ⟨_, List.getElem?_eq_getElem hkl⟩
        have hxm := List.mem_of_getElem? hx
        have hym := List.mem_of_getElem? hy
        rw [hl'] at hx
        have q16 : (!decide (x = x)) = false := by simp
        refine Cd.draw mixed 35 (fun _ => none) (fun _ => []) (by kernel_rfl) (fun _ _ h => by cases h) (fun u hu => ?_)
        refine Wk.p mvi ?_
        refine Wk.p mvs ?_
        refine Wk.p (lens sl_L_int) ?_
        refine Wk.p lsi ?_
        refine Wk.p mvb ?_
        refine Wk.gp q4 mvs ?_
        refine Wk.gp q4 mvi ?_
        refine Wk.gp q4 (ixn (ix := k) sl_L_int (Som.slc hro (by omega))) ?_
        refine Wk.gp q4 (ld (v := .int .i64 x) one_int (Rd.slc hro (show (ints (l ++ mkL 12))[k * 1]? = some (.int .i64 x) from by rw [Nat.mul_one]; unfold ints; rw [List.getElem?_map, mk_old hx]; rfl))) ?_
        refine Wk.gp q4 mvs ?_
        refine Wk.gp q4 mvi ?_
        refine Wk.gp q4 (ixn (ix := k) sl_L_int (Som.slc hl (by omega))) ?_
        refine Wk.gp q4 (ld (v := .int .i64 x) one_int (Rd.slc hl (show (ints l)[k * 1]? = some (.int .i64 x) from by rw [Nat.mul_one]; unfold ints; rw [List.getElem?_map, hx]; rfl))) ?_
        refine Wk.gp q4 eqi ?_
        refine Wk.gp q4 noti ?_
        refine Wk.p (pkTb q4) ?_
        refine Wk.p mvb ?_
        refine Wk.gp q16 mvi ?_
        refine Wk.gp q16 mvs ?_
        refine Wk.gp q16 (lens sl_L_int) ?_
        refine Wk.gp q16 gei ?_
        refine Wk.gp q16 mvb ?_
        refine Wk.gn q20 ?_
        refine Wk.gn q20 ?_
        refine Wk.gn q20 ?_
        refine Wk.gn q20 ?_
        refine Wk.gn q20 ?_
        refine Wk.gn q20 ?_
        refine Wk.gn q20 ?_
        refine Wk.gn q20 ?_
        refine Wk.gn q20 ?_
        refine Wk.gn q20 ?_
        refine Wk.gn q20 ?_
        refine Wk.gp q16 (pkFb q20) ?_
        refine Wk.p (pkFb q16) ?_
        refine Wk.nil ?_
        refine Ol.nil ?_
        exact ⟨⟨rfl, rfl, rfl, rfl, trivial⟩, rfl⟩
      | false =>
        have hkl : l.length ≤ k := by have := of_decide_eq_false q4; omega
        have q20 : decide ((l.length : Int) ≤ (k : Int)) = true := decide_eq_true (by omega)
        obtain ⟨j, hj⟩ : ∃ j, k = l.length + j := ⟨k - l.length, by omega⟩
        have hjv : ((k : Int) - (l.length : Int)) = (j : Int) := by omega
        have hz := mk_at (l := l') (F := mkN 1) (j := j) (by omega)
        rw [hll, ← hj, hl'] at hz
        have hmk : ∀ w', Ct Tryz.prog 49 #[.int .i64 1, .int .i64 ((k : Int) - (l.length : Int))] w' (Is (.int .i64 (mkN 1 j))) := fun w' => by
          rw [hjv]
          exact kit_mark_ct (k := 1) (by decide) (by omega)
        have q31 : (!decide (mkN 1 j = mkN 1 j)) = false := by simp
        refine Cd.draw mixed 35 (exIs (fun opNo => match opNo with | 30 => some ((.int .i64 (mkN 1 j))) | _ => none)) (fun _ => []) (by kernel_rfl) exIs_in (fun u hu => ?_)
        refine Wk.p mvi ?_
        refine Wk.p mvs ?_
        refine Wk.p (lens sl_L_int) ?_
        refine Wk.p lsi ?_
        refine Wk.p mvb ?_
        refine Wk.gn q4 ?_
        refine Wk.gn q4 ?_
        refine Wk.gn q4 ?_
        refine Wk.gn q4 ?_
        refine Wk.gn q4 ?_
        refine Wk.gn q4 ?_
        refine Wk.gn q4 ?_
        refine Wk.gn q4 ?_
        refine Wk.gn q4 ?_
        refine Wk.gn q4 ?_
        refine Wk.p (pkFb q4) ?_
        refine Wk.p mvb ?_
        refine Wk.gp rfl mvi ?_
        refine Wk.gp rfl mvs ?_
        refine Wk.gp rfl (lens sl_L_int) ?_
        refine Wk.gp rfl gei ?_
        refine Wk.gp rfl mvb ?_
        refine Wk.gp q20 mvs ?_
        refine Wk.gp q20 mvi ?_
        refine Wk.gp q20 (ixn (ix := k) sl_L_int (Som.slc hro (by omega))) ?_
        refine Wk.gp q20 (ld (v := .int .i64 (mkN 1 j)) one_int (Rd.slc hro (show (ints (l ++ mkL 12))[k * 1]? = some (.int .i64 (mkN 1 j)) from by rw [Nat.mul_one]; unfold ints; rw [List.getElem?_map, show (l ++ mkL 12)[k]? = some (mkN 1 j) from hz]; rfl))) ?_
        refine Wk.gp q20 mvi ?_
        refine Wk.gp q20 mvs ?_
        refine Wk.gp q20 (lens sl_L_int) ?_
        refine Wk.gp q20 subi ?_
        refine Wk.gdk hu q20 (sp_call (vs := [.int .i64 1, .int .i64 ((k : Int) - (l.length : Int))]) en_kit_mark (fun M w' hh => hmk w')) ?_
        refine Wk.gp q20 eqi ?_
        refine Wk.gp q20 noti ?_
        refine Wk.gp rfl (pkTb q20) ?_
        refine Wk.p (pkFb rfl) ?_
        refine Wk.nil ?_
        rw [needs_exIs hu rfl]
        refine Ol.nil ?_
        exact ⟨⟨rfl, rfl, rfl, congrArg Value.bool q31, trivial⟩, rfl⟩
    rintro σ' _ ⟨hs', rfl⟩
    refine Cd.has hs' ?_
    clear hs'
    refine Cd.cond rfl (fun h => by cases h) (fun _ => ?_)
    refine Cd.skip ?_
    refine Cd.region ?_
    refine Ol.p mvi ?_
    refine Ol.p addi ?_
    refine Ol.p asi ?_
    refine Ol.nil ?_
    exact ⟨l.length + 12 - (k + 1), by omega, k + 1, rfl, by omega, ⟨rfl, rfl, rfl, trivial⟩, rfl⟩
  refine Cd.exit (id := 0) ?_
  refine Cd.seq ?_
  refine Cd.region ?_
  refine Ol.p asb ?_
  refine Ol.nil ?_
  exact Cd.ret ⟨.bool true, ret1 rfl rfl, [], Keep.nil, rfl, rfl⟩
end
section
theorem kit_KeptIns_ct {w : World} {a b : RIns} (hb : a.bare = b.bare) (ha : Reads w w.heap.size 1 a.aA (a.args.length + 12) (ints (a.args ++ mkL 12))) (hc : a.args.length + 12 ≤ a.aC) (hr : Reads w w.heap.size 1 b.aA b.args.length (ints b.args)) (hlen : a.args.length < 2 ^ 40) : Ct Tryz.prog 139 #[a.val, b.val] w (Is (.bool true)) := by
  have hargs : b.args = a.args := (congrArg RIns.args hb : a.bare.args = b.bare.args).symm
  rw [hargs] at hr
  have hS : decide (a.bare = b.bare) = true := decide_eq_true hb
  have hv : b.val = .agg #[.int .i64 b.op, .int .i64 b.dst, .int .i64 b.a, .int .i64 b.b, .int .i64 b.imm, .int .i64 b.callee, .slice b.aA a.args.length b.aC, .int .i64 b.many] := by
    rw [← hargs]; rfl
  refine Ct.mk Tryz.func139 rfl rfl ?_
  refine Cd.seq ?_
  refine Cd.region ?_
  refine Ol.x bxg ?_
  rintro _ _ ⟨g2, rfl, rfl⟩
  refine Ol.x bxg ?_
  rintro _ _ ⟨g3, rfl, rfl⟩
  refine Ol.p asb ?_
  refine Ol.nil ?_
  refine Cd.seq ?_
  refine Cd.region ?_
  refine Ol.p (ldw (cs := a.cells.toArray) ag_api_Ins (i := 1) rfl rfl) ?_
  refine Ol.p (ldw (cs := b.cells.toArray) ag_api_Ins (i := 0) rfl rfl) ?_
  refine Ol.s (cl (v := .bool true) en_kit_SameIns (fun M w' hh => hS ▸ kit_SameIns_ct ((ha.lentI).now hh) (hargs ▸ hr.now hh) (by omega) (by rw [hargs]; omega))) ?_
  refine Ol.p mvb ?_
  refine Ol.gp rfl (fdl fd_api_Ins_6) ?_
  refine Ol.gp rfl (ld (v := .slice a.aA a.args.length a.aC) one_L_int (Rd.blk (i := 1) rfl rfl)) ?_
  refine Ol.gp rfl (fdl fd_api_Ins_6) ?_
  refine Ol.gp rfl (ld (v := .slice b.aA a.args.length b.aC) one_L_int (Rd.blk (i := 0) rfl (show b.cells.toArray[0 + 6]? = some (.slice b.aA a.args.length b.aC) from by rw [← hargs]; rfl))) ?_
  refine Ol.gs rfl (cl (v := .bool true) en_kit_KeptInts (fun M w' hh => kit_KeptInts_ct (l := a.args) (ha.now hh) hc (hr.now hh) hlen)) ?_
  refine Ol.p (pkTb rfl) ?_
  refine Ol.p asb ?_
  refine Ol.nil ?_
  exact Cd.ret ⟨.bool true, ret1 rfl rfl, [], Keep.nil, rfl, rfl⟩
end
section
set_option maxHeartbeats 2000000 in
theorem kit_KeptRow_ct {w : World} {A B : Option Addr} {c d : Nat} {l' l : List RIns} (hb : l'.map RIns.bare = l.map RIns.bare) (hro : Reads w w.heap.size 8 A (l'.length + 12) ((l' ++ mkIL 12).flatMap RIns.cells)) (hc : l'.length + 12 ≤ c) (hra : ∀ i ∈ l', Reads w w.heap.size 1 i.aA (i.args.length + 12) (ints (i.args ++ mkL 12))) (hac : ∀ i ∈ l', i.args.length + 12 ≤ i.aC) (hl : Reads w w.heap.size 8 B l.length (l.flatMap RIns.cells)) (hla : ∀ i ∈ l, Reads w w.heap.size 1 i.aA i.args.length (ints i.args)) (hlen : l.length < 2 ^ 36) (hal : ∀ i ∈ l, i.args.length < 2 ^ 40) : Ct Tryz.prog 115 #[.slice A l'.length c, .slice B l.length d] w (Is (.bool true)) := by
  have hll : l'.length = l.length := by
    have := congrArg List.length hb
    simpa using this
  rw [hll] at hro hc
  refine Ct.mk Tryz.func115 rfl rfl ?_
  refine Cd.seq ?_
  refine Cd.region ?_
  refine Ol.p asb ?_
  refine Ol.nil ?_
  refine Cd.seq ?_
  refine Cd.seq ?_
  refine Cd.region ?_
  refine Ol.p mvs ?_
  refine Ol.p (lens sl_L_api_Ins) ?_
  refine Ol.p mvs ?_
  refine Ol.p (lens sl_L_api_Ins) ?_
  refine Ol.p nei ?_
  refine Ol.nil ?_
  refine Cd.cond rfl (fun h => ?_) (fun _ => ?_)
  · exfalso
    have h : (!decide ((l'.length : Int) = (l.length : Int))) = true := h
    rw [decide_eq_true (by omega)] at h
    cases h
  refine Cd.skip ?_
  refine Cd.seq ?_
  refine Cd.region ?_
  refine Ol.p mvs ?_
  refine Ol.p mvs ?_
  refine Ol.p (lens sl_L_api_Ins) ?_
  refine Ol.p addi ?_
  refine Ol.p (slh (A := A) (c := c) (h := l.length + 12) sl_L_api_Ins (by omega) (hy := congrArg (Value.int .i64) (show (l.length : Int) + 12 = ((l.length + 12 : Nat) : Int) by omega))) ?_
  refine Ol.p ass ?_
  refine Ol.nil ?_
  refine Cd.seq ?_
  refine Cd.seq ?_
  refine Cd.region ?_
  refine Ol.p asi ?_
  refine Ol.nil ?_
  refine Cd.block ?_
  refine Cd.loop (fun m σ L => ∃ k, m = l.length + 12 - k ∧ k ≤ l.length + 12 ∧ Has σ [(1, .slice B l.length d), (5, .slice A (l.length + 12) c), (6, .int .i64 k)] ∧ [] = L) (n := l.length + 12) ⟨0, rfl, Nat.zero_le _, ⟨rfl, rfl, rfl, trivial⟩, rfl⟩ ?_
  rintro _ σ L ⟨k, rfl, hk, hs, rfl⟩
  refine Cd.has hs ?_
  clear hs
  refine Cd.seq ?_
  refine Cd.seq ?_
  refine Cd.region ?_
  refine Ol.p mvi ?_
  refine Ol.p mvs ?_
  refine Ol.p (lens sl_L_api_Ins) ?_
  refine Ol.p lsi ?_
  refine Ol.nil ?_
  refine Cd.cond rfl (fun h => ?_) (fun h => ?_)
  · have hlt : k < l.length + 12 := by
      have h : decide ((k : Int) < ((l.length + 12 : Nat) : Int)) = true := h
      have := of_decide_eq_true h
      omega
    refine Cd.skip ?_
    refine Cd.seq ?_
    refine Cd.block ?_
    refine Cd.mid (fun σ' L' => Has σ' [(1, .slice B l.length d), (5, .slice A (l.length + 12) c), (6, .int .i64 k), (57, .bool false)] ∧ [] = L') ?_ ?_
    · cases q4 : decide ((k : Int) < (l.length : Int)) with
      | true =>
        have hkl : k < l.length := by have := of_decide_eq_true q4; omega
        have q20 : decide ((l.length : Int) ≤ (k : Int)) = false := decide_eq_false (by omega)
        obtain ⟨x, hx⟩ : ∃ x, l'[k]? = some x := ⟨_, List.getElem?_eq_getElem (by omega)⟩
        obtain ⟨y, hy⟩ : ∃ y, l[k]? = some y := ⟨_, List.getElem?_eq_getElem hkl⟩
        have hxm := List.mem_of_getElem? hx
        have hym := List.mem_of_getElem? hy
        have hxy : x.bare = y.bare := by
          have := congrArg (fun z : List RIns => z[k]?) hb
          simp only [List.getElem?_map, hx, hy, Option.map_some] at this
          exact Option.some.inj this
        have hxl : x.args.length < 2 ^ 40 := by
          have e : x.args = y.args := (congrArg RIns.args hxy : x.bare.args = y.bare.args)
          rw [e]; exact hal y hym
        refine Cd.draw mixed 35 (exIs (fun opNo => match opNo with | 13 => some (.bool true) | _ => none)) (fun _ => []) (by kernel_rfl) exIs_in (fun u hu => ?_)
        refine Wk.p mvi ?_
        refine Wk.p mvs ?_
        refine Wk.p (lens sl_L_api_Ins) ?_
        refine Wk.p lsi ?_
        refine Wk.p mvb ?_
        refine Wk.gp q4 mvs ?_
        refine Wk.gp q4 mvi ?_
        refine Wk.gp q4 (ixn (ix := k) sl_L_api_Ins (Som.slc hro (by omega))) ?_
        refine Wk.gp q4 (lds (es := x.cells) ag_api_Ins hro x.len (fun q u hu => ins_cell (mk_old hx) hu)) ?_
        refine Wk.gp q4 mvs ?_
        refine Wk.gp q4 mvi ?_
        refine Wk.gp q4 (ixn (ix := k) sl_L_api_Ins (Som.slc hl (by omega))) ?_
        refine Wk.gp q4 (lds (es := y.cells) ag_api_Ins hl y.len (fun q u hu => ins_cell hy hu)) ?_
        refine Wk.gdk hu q4 (sp_call (vs := [x.val, y.val]) en_kit_KeptIns (fun M w' hh => kit_KeptIns_ct hxy ((hra x hxm).now hh) (hac x hxm) ((hla y hym).now hh) hxl)) ?_
        refine Wk.gp q4 noti ?_
        refine Wk.p (pkTb q4) ?_
        refine Wk.p mvb ?_
        refine Wk.gp rfl mvi ?_
        refine Wk.gp rfl mvs ?_
        refine Wk.gp rfl (lens sl_L_api_Ins) ?_
        refine Wk.gp rfl gei ?_
        refine Wk.gp rfl mvb ?_
        refine Wk.gn q20 ?_
        refine Wk.gn q20 ?_
        refine Wk.gn q20 ?_
        refine Wk.gn q20 ?_
        refine Wk.gn q20 ?_
        refine Wk.gn q20 ?_
        refine Wk.gn q20 ?_
        refine Wk.gn q20 ?_
        refine Wk.gn q20 ?_
        refine Wk.gn q20 ?_
        refine Wk.gn q20 ?_
        refine Wk.gp rfl (pkFb q20) ?_
        refine Wk.p (pkFb rfl) ?_
        refine Wk.nil ?_
        rw [needs_exIs hu rfl]
        refine Ol.nil ?_
        exact ⟨⟨rfl, rfl, rfl, rfl, trivial⟩, rfl⟩
      | false =>
        have hkl : l.length ≤ k := by have := of_decide_eq_false q4; omega
        have q20 : decide ((l.length : Int) ≤ (k : Int)) = true := decide_eq_true (by omega)
        obtain ⟨j, hj⟩ : ∃ j, k = l.length + j := ⟨k - l.length, by omega⟩
        have hjv : ((k : Int) - (l.length : Int)) = (j : Int) := by omega
        have hz := mk_at (l := l') (F := MI 1) (j := j) (by omega)
        rw [hll, ← hj] at hz
        have hmk : ∀ w', Ct Tryz.prog 119 #[.int .i64 1, .int .i64 ((k : Int) - (l.length : Int))] w' (Is (MI 1 j).val) := fun w' => by
          rw [hjv]
          exact kit_markIns_ct (k := 1) (by decide) (by omega)
        have hSM : decide ((MI 1 j).bare = (MI 1 j).bare) = true := by simp
        have hsm : ∀ w', Ct Tryz.prog 120 #[(MI 1 j).val, (MI 1 j).val] w' (Is (.bool true)) := fun w' => hSM ▸ kit_SameIns_ct reads_none_ reads_none_ (by simp [MI]) (by simp [MI])
        refine Cd.draw mixed 35 (exIs (fun opNo => match opNo with | 30 => some ((MI 1 j).val) | 31 => some (.bool true) | _ => none)) (fun _ => []) (by kernel_rfl) exIs_in (fun u hu => ?_)
        refine Wk.p mvi ?_
        refine Wk.p mvs ?_
        refine Wk.p (lens sl_L_api_Ins) ?_
        refine Wk.p lsi ?_
        refine Wk.p mvb ?_
        refine Wk.gn q4 ?_
        refine Wk.gn q4 ?_
        refine Wk.gn q4 ?_
        refine Wk.gn q4 ?_
        refine Wk.gn q4 ?_
        refine Wk.gn q4 ?_
        refine Wk.gn q4 ?_
        refine Wk.gn q4 ?_
        refine Wk.gn q4 ?_
        refine Wk.gn q4 ?_
        refine Wk.p (pkFb q4) ?_
        refine Wk.p mvb ?_
        refine Wk.gp rfl mvi ?_
        refine Wk.gp rfl mvs ?_
        refine Wk.gp rfl (lens sl_L_api_Ins) ?_
        refine Wk.gp rfl gei ?_
        refine Wk.gp rfl mvb ?_
        refine Wk.gp q20 mvs ?_
        refine Wk.gp q20 mvi ?_
        refine Wk.gp q20 (ixn (ix := k) sl_L_api_Ins (Som.slc hro (by omega))) ?_
        refine Wk.gp q20 (lds (es := (MI 1 j).cells) ag_api_Ins hro (MI 1 j).len (fun q u hu => ins_cell (l := l' ++ mkIL 12) hz hu)) ?_
        refine Wk.gp q20 mvi ?_
        refine Wk.gp q20 mvs ?_
        refine Wk.gp q20 (lens sl_L_api_Ins) ?_
        refine Wk.gp q20 subi ?_
        refine Wk.gdk hu q20 (sp_call (vs := [.int .i64 1, .int .i64 ((k : Int) - (l.length : Int))]) en_kit_markIns (fun M w' hh => hmk w')) ?_
        refine Wk.gdk hu q20 (sp_call (vs := [(MI 1 j).val, (MI 1 j).val]) en_kit_SameIns (fun M w' hh => hsm w')) ?_
        refine Wk.gp q20 noti ?_
        refine Wk.gp rfl (pkTb q20) ?_
        refine Wk.p (pkFb rfl) ?_
        refine Wk.nil ?_
        rw [needs_exIs hu rfl]
        refine Ol.nil ?_
        exact ⟨⟨rfl, rfl, rfl, rfl, trivial⟩, rfl⟩
    rintro σ' _ ⟨hs', rfl⟩
    refine Cd.has hs' ?_
    clear hs'
    refine Cd.cond rfl (fun h => by cases h) (fun _ => ?_)
    refine Cd.skip ?_
    refine Cd.region ?_
    refine Ol.p mvi ?_
    refine Ol.p addi ?_
    refine Ol.p asi ?_
    refine Ol.nil ?_
    exact ⟨l.length + 12 - (k + 1), by omega, k + 1, rfl, by omega, ⟨rfl, rfl, rfl, trivial⟩, rfl⟩
  refine Cd.exit (id := 0) ?_
  refine Cd.seq ?_
  refine Cd.region ?_
  refine Ol.p asb ?_
  refine Ol.nil ?_
  exact Cd.ret ⟨.bool true, ret1 rfl rfl, [], Keep.nil, rfl, rfl⟩
end
section
theorem kit_KeptBlock_ct {w : World} {a b : RBlk} (hb : a.bare = b.bare) (ha : BlkL w w.heap.size a) (hr : BlkR w w.heap.size b) (hlen : b.ins.length < 2 ^ 36) (hal : ∀ i ∈ b.ins, i.args.length < 2 ^ 40) : Ct Tryz.prog 87 #[a.val, b.val] w (Is (.bool true)) := by
  have hins : a.ins.map RIns.bare = b.ins.map RIns.bare := (congrArg RBlk.ins hb : a.bare.ins = b.bare.ins)
  have hll : a.ins.length = b.ins.length := by
    have := congrArg List.length hins
    simpa using this
  have hS : decide (a.bare = b.bare) = true := decide_eq_true hb
  have haa : ∀ i ∈ a.ins, i.args.length < 2 ^ 40 := fun i hi => by
    have : i.bare ∈ b.ins.map RIns.bare := hins ▸ List.mem_map_of_mem hi
    obtain ⟨j, hj, ej⟩ := List.mem_map.1 this
    have e : j.args = i.args := (congrArg RIns.args ej : j.bare.args = i.bare.args)
    rw [← e]; exact hal j hj
  have har : BlkR w w.heap.size a := ⟨ha.ins.lentN, fun i hi => (ha.args i hi).lentI, fun i hi => by have := haa i hi; omega, by omega⟩
  refine Ct.mk Tryz.func87 rfl rfl ?_
  refine Cd.seq ?_
  refine Cd.region ?_
  refine Ol.x bxg ?_
  rintro _ _ ⟨g2, rfl, rfl⟩
  refine Ol.x bxg ?_
  rintro _ _ ⟨g3, rfl, rfl⟩
  refine Ol.p asb ?_
  refine Ol.nil ?_
  refine Cd.seq ?_
  refine Cd.region ?_
  refine Ol.p (ldw (cs := a.cells.toArray) ag_api_Block (i := 1) rfl rfl) ?_
  refine Ol.p (ldw (cs := b.cells.toArray) ag_api_Block (i := 0) rfl rfl) ?_
  refine Ol.s (cl (v := .bool true) en_kit_SameBlock (fun M w' hh => hS ▸ kit_SameBlock_ct (har.now hh) (hr.now hh))) ?_
  refine Ol.p mvb ?_
  refine Ol.gp rfl (fdl fd_api_Block_0) ?_
  refine Ol.gp rfl (ld (v := .slice a.iA a.ins.length a.iC) one_L_api_Ins (Rd.blk (i := 1) rfl rfl)) ?_
  refine Ol.gp rfl (fdl fd_api_Block_0) ?_
  refine Ol.gp rfl (ld (v := .slice b.iA b.ins.length b.iC) one_L_api_Ins (Rd.blk (i := 0) rfl rfl)) ?_
  refine Ol.gs rfl (cl (v := .bool true) en_kit_KeptRow (fun M w' hh => kit_KeptRow_ct hins ((ha.now hh).ins) ha.ic (ha.now hh).args ha.ac ((hr.now hh).ins) ((hr.now hh).args) hlen hal)) ?_
  refine Ol.p (pkTb rfl) ?_
  refine Ol.p asb ?_
  refine Ol.nil ?_
  exact Cd.ret ⟨.bool true, ret1 rfl rfl, [], Keep.nil, rfl, rfl⟩
end
section
set_option maxHeartbeats 2000000 in
theorem kit_KeptBlocks_ct {w : World} {A B : Option Addr} {c d : Nat} {l' l : List RBlk} (hb : l'.map RBlk.bare = l.map RBlk.bare) (hro : Reads w w.heap.size 5 A (l'.length + 12) ((l' ++ mkBL 12).flatMap RBlk.cells)) (hc : l'.length + 12 ≤ c) (hra : ∀ x ∈ l', BlkL w w.heap.size x) (hl : Reads w w.heap.size 5 B l.length (l.flatMap RBlk.cells)) (hla : ∀ x ∈ l, BlkR w w.heap.size x) (hlen : l.length < 2 ^ 36) (hil : ∀ x ∈ l, x.ins.length < 2 ^ 36) (hal : ∀ x ∈ l, ∀ i ∈ x.ins, i.args.length < 2 ^ 40) : Ct Tryz.prog 68 #[.slice A l'.length c, .slice B l.length d] w (Is (.bool true)) := by
  have hll : l'.length = l.length := by
    have := congrArg List.length hb
    simpa using this
  rw [hll] at hro hc
  refine Ct.mk Tryz.func68 rfl rfl ?_
  refine Cd.seq ?_
  refine Cd.region ?_
  refine Ol.p asb ?_
  refine Ol.nil ?_
  refine Cd.seq ?_
  refine Cd.seq ?_
  refine Cd.region ?_
  refine Ol.p mvs ?_
  refine Ol.p (lens sl_L_api_Block) ?_
  refine Ol.p mvs ?_
  refine Ol.p (lens sl_L_api_Block) ?_
  refine Ol.p nei ?_
  refine Ol.nil ?_
  refine Cd.cond rfl (fun h => ?_) (fun _ => ?_)
  · exfalso
    have h : (!decide ((l'.length : Int) = (l.length : Int))) = true := h
    rw [decide_eq_true (by omega)] at h
    cases h
  refine Cd.skip ?_
  refine Cd.seq ?_
  refine Cd.region ?_
  refine Ol.p mvs ?_
  refine Ol.p mvs ?_
  refine Ol.p (lens sl_L_api_Block) ?_
  refine Ol.p addi ?_
  refine Ol.p (slh (A := A) (c := c) (h := l.length + 12) sl_L_api_Block (by omega) (hy := congrArg (Value.int .i64) (show (l.length : Int) + 12 = ((l.length + 12 : Nat) : Int) by omega))) ?_
  refine Ol.p ass ?_
  refine Ol.nil ?_
  refine Cd.seq ?_
  refine Cd.seq ?_
  refine Cd.region ?_
  refine Ol.p asi ?_
  refine Ol.nil ?_
  refine Cd.block ?_
  refine Cd.loop (fun m σ L => ∃ k, m = l.length + 12 - k ∧ k ≤ l.length + 12 ∧ Has σ [(1, .slice B l.length d), (5, .slice A (l.length + 12) c), (6, .int .i64 k)] ∧ [] = L) (n := l.length + 12) ⟨0, rfl, Nat.zero_le _, ⟨rfl, rfl, rfl, trivial⟩, rfl⟩ ?_
  rintro _ σ L ⟨k, rfl, hk, hs, rfl⟩
  refine Cd.has hs ?_
  clear hs
  refine Cd.seq ?_
  refine Cd.seq ?_
  refine Cd.region ?_
  refine Ol.p mvi ?_
  refine Ol.p mvs ?_
  refine Ol.p (lens sl_L_api_Block) ?_
  refine Ol.p lsi ?_
  refine Ol.nil ?_
  refine Cd.cond rfl (fun h => ?_) (fun h => ?_)
  · have hlt : k < l.length + 12 := by
      have h : decide ((k : Int) < ((l.length + 12 : Nat) : Int)) = true := h
      have := of_decide_eq_true h
      omega
    refine Cd.skip ?_
    refine Cd.seq ?_
    refine Cd.block ?_
    refine Cd.mid (fun σ' L' => Has σ' [(1, .slice B l.length d), (5, .slice A (l.length + 12) c), (6, .int .i64 k), (57, .bool false)] ∧ [] = L') ?_ ?_
    · cases q4 : decide ((k : Int) < (l.length : Int)) with
      | true =>
        have hkl : k < l.length := by have := of_decide_eq_true q4; omega
        have q20 : decide ((l.length : Int) ≤ (k : Int)) = false := decide_eq_false (by omega)
        obtain ⟨x, hx⟩ : ∃ x, l'[k]? = some x := ⟨_, List.getElem?_eq_getElem (by omega)⟩
        obtain ⟨y, hy⟩ : ∃ y, l[k]? = some y := ⟨_, List.getElem?_eq_getElem hkl⟩
        have hxm := List.mem_of_getElem? hx
        have hym := List.mem_of_getElem? hy
        have hxy : x.bare = y.bare := by
          have := congrArg (fun z : List RBlk => z[k]?) hb
          simp only [List.getElem?_map, hx, hy, Option.map_some] at this
          exact Option.some.inj this
        refine Cd.draw mixed 35 (exIs (fun opNo => match opNo with | 13 => some (.bool true) | _ => none)) (fun _ => []) (by kernel_rfl) exIs_in (fun u hu => ?_)
        refine Wk.p mvi ?_
        refine Wk.p mvs ?_
        refine Wk.p (lens sl_L_api_Block) ?_
        refine Wk.p lsi ?_
        refine Wk.p mvb ?_
        refine Wk.gp q4 mvs ?_
        refine Wk.gp q4 mvi ?_
        refine Wk.gp q4 (ixn (ix := k) sl_L_api_Block (Som.slc hro (by omega))) ?_
        refine Wk.gp q4 (lds (es := x.cells) ag_api_Block hro x.len (fun q u hu => blk_cell (mk_old hx) hu)) ?_
        refine Wk.gp q4 mvs ?_
        refine Wk.gp q4 mvi ?_
        refine Wk.gp q4 (ixn (ix := k) sl_L_api_Block (Som.slc hl (by omega))) ?_
        refine Wk.gp q4 (lds (es := y.cells) ag_api_Block hl y.len (fun q u hu => blk_cell hy hu)) ?_
        refine Wk.gdk hu q4 (sp_call (vs := [x.val, y.val]) en_kit_KeptBlock (fun M w' hh => kit_KeptBlock_ct hxy ((hra x hxm).now hh) ((hla y hym).now hh) (hil y hym) (hal y hym))) ?_
        refine Wk.gp q4 noti ?_
        refine Wk.p (pkTb q4) ?_
        refine Wk.p mvb ?_
        refine Wk.gp rfl mvi ?_
        refine Wk.gp rfl mvs ?_
        refine Wk.gp rfl (lens sl_L_api_Block) ?_
        refine Wk.gp rfl gei ?_
        refine Wk.gp rfl mvb ?_
        refine Wk.gn q20 ?_
        refine Wk.gn q20 ?_
        refine Wk.gn q20 ?_
        refine Wk.gn q20 ?_
        refine Wk.gn q20 ?_
        refine Wk.gn q20 ?_
        refine Wk.gn q20 ?_
        refine Wk.gn q20 ?_
        refine Wk.gn q20 ?_
        refine Wk.gn q20 ?_
        refine Wk.gn q20 ?_
        refine Wk.gp rfl (pkFb q20) ?_
        refine Wk.p (pkFb rfl) ?_
        refine Wk.nil ?_
        rw [needs_exIs hu rfl]
        refine Ol.nil ?_
        exact ⟨⟨rfl, rfl, rfl, rfl, trivial⟩, rfl⟩
      | false =>
        have hkl : l.length ≤ k := by have := of_decide_eq_false q4; omega
        have q20 : decide ((l.length : Int) ≤ (k : Int)) = true := decide_eq_true (by omega)
        obtain ⟨j, hj⟩ : ∃ j, k = l.length + j := ⟨k - l.length, by omega⟩
        have hjv : ((k : Int) - (l.length : Int)) = (j : Int) := by omega
        have hz := mk_at (l := l') (F := MB 1) (j := j) (by omega)
        rw [hll, ← hj] at hz
        have hmk : ∀ w', Ct Tryz.prog 80 #[.int .i64 1, .int .i64 ((k : Int) - (l.length : Int))] w' (Is (MB 1 j).val) := fun w' => by
          rw [hjv]
          exact kit_markBlock_ct (k := 1) (by decide) (by omega)
        have hSM : decide ((MB 1 j).bare = (MB 1 j).bare) = true := by simp
        have hMB : ∀ w', BlkR w' w'.heap.size (MB 1 j) := fun w' => ⟨reads_none_, (fun i hi => by simp [MB] at hi), (fun i hi => by simp [MB] at hi), by simp [MB]⟩
        have hsm : ∀ w', Ct Tryz.prog 88 #[(MB 1 j).val, (MB 1 j).val] w' (Is (.bool true)) := fun w' => hSM ▸ kit_SameBlock_ct (hMB w') (hMB w')
        refine Cd.draw mixed 35 (exIs (fun opNo => match opNo with | 30 => some ((MB 1 j).val) | 31 => some (.bool true) | _ => none)) (fun _ => []) (by kernel_rfl) exIs_in (fun u hu => ?_)
        refine Wk.p mvi ?_
        refine Wk.p mvs ?_
        refine Wk.p (lens sl_L_api_Block) ?_
        refine Wk.p lsi ?_
        refine Wk.p mvb ?_
        refine Wk.gn q4 ?_
        refine Wk.gn q4 ?_
        refine Wk.gn q4 ?_
        refine Wk.gn q4 ?_
        refine Wk.gn q4 ?_
        refine Wk.gn q4 ?_
        refine Wk.gn q4 ?_
        refine Wk.gn q4 ?_
        refine Wk.gn q4 ?_
        refine Wk.gn q4 ?_
        refine Wk.p (pkFb q4) ?_
        refine Wk.p mvb ?_
        refine Wk.gp rfl mvi ?_
        refine Wk.gp rfl mvs ?_
        refine Wk.gp rfl (lens sl_L_api_Block) ?_
        refine Wk.gp rfl gei ?_
        refine Wk.gp rfl mvb ?_
        refine Wk.gp q20 mvs ?_
        refine Wk.gp q20 mvi ?_
        refine Wk.gp q20 (ixn (ix := k) sl_L_api_Block (Som.slc hro (by omega))) ?_
        refine Wk.gp q20 (lds (es := (MB 1 j).cells) ag_api_Block hro (MB 1 j).len (fun q u hu => blk_cell (l := l' ++ mkBL 12) hz hu)) ?_
        refine Wk.gp q20 mvi ?_
        refine Wk.gp q20 mvs ?_
        refine Wk.gp q20 (lens sl_L_api_Block) ?_
        refine Wk.gp q20 subi ?_
        refine Wk.gdk hu q20 (sp_call (vs := [.int .i64 1, .int .i64 ((k : Int) - (l.length : Int))]) en_kit_markBlock (fun M w' hh => hmk w')) ?_
        refine Wk.gdk hu q20 (sp_call (vs := [(MB 1 j).val, (MB 1 j).val]) en_kit_SameBlock (fun M w' hh => hsm w')) ?_
        refine Wk.gp q20 noti ?_
        refine Wk.gp rfl (pkTb q20) ?_
        refine Wk.p (pkFb rfl) ?_
        refine Wk.nil ?_
        rw [needs_exIs hu rfl]
        refine Ol.nil ?_
        exact ⟨⟨rfl, rfl, rfl, rfl, trivial⟩, rfl⟩
    rintro σ' _ ⟨hs', rfl⟩
    refine Cd.has hs' ?_
    clear hs'
    refine Cd.cond rfl (fun h => by cases h) (fun _ => ?_)
    refine Cd.skip ?_
    refine Cd.region ?_
    refine Ol.p mvi ?_
    refine Ol.p addi ?_
    refine Ol.p asi ?_
    refine Ol.nil ?_
    exact ⟨l.length + 12 - (k + 1), by omega, k + 1, rfl, by omega, ⟨rfl, rfl, rfl, trivial⟩, rfl⟩
  refine Cd.exit (id := 0) ?_
  refine Cd.seq ?_
  refine Cd.region ?_
  refine Ol.p asb ?_
  refine Ol.nil ?_
  exact Cd.ret ⟨.bool true, ret1 rfl rfl, [], Keep.nil, rfl, rfl⟩
end
section
theorem kit_KeptFunc_ct {w : World} {g f : RFun} (hb : g.bare = f.bare) (hg : LentAt w w.heap.size g) (hf : FunAt w w.heap.size f) (hgf : FitC g) (hff : FitC f) (hp : f.params.length < 2 ^ 40) (hl : BlksIn w w.heap.size f.bA f.blocks) (hal : ∀ b ∈ f.blocks, ∀ i ∈ b.ins, i.args.length < 2 ^ 40) : Ct Tryz.prog 27 #[g.val, f.val] w (Is (.bool true)) := by
  have hpar : g.params = f.params := (congrArg RFun.params hb : g.bare.params = f.bare.params)
  have hblk : g.blocks.map RBlk.bare = f.blocks.map RBlk.bare := (congrArg RFun.blocks hb : g.bare.blocks = f.bare.blocks)
  have hS : decide (g.bare = f.bare) = true := decide_eq_true hb
  have hgp := hg.params
  have hgc := hg.pc
  rw [hpar] at hgp hgc
  have hfr : ∀ x ∈ f.blocks, BlkR w w.heap.size x := fun x hx => ⟨hf.ins x hx, hf.args x hx, fun i hi => by have := hal x hx i hi; omega, by have := hl.ilen x hx; omega⟩
  refine Ct.mk Tryz.func27 rfl rfl ?_
  refine Cd.seq ?_
  refine Cd.region ?_
  refine Ol.x bxg ?_
  rintro _ _ ⟨g2, rfl, rfl⟩
  refine Ol.x bxg ?_
  rintro _ _ ⟨g3, rfl, rfl⟩
  refine Ol.p asb ?_
  refine Ol.nil ?_
  refine Cd.seq ?_
  refine Cd.region ?_
  refine Ol.p (ldw (cs := g.cells.toArray) ag_api_Func (i := 1) rfl rfl) ?_
  refine Ol.p (ldw (cs := f.cells.toArray) ag_api_Func (i := 0) rfl rfl) ?_
  refine Ol.s (cl (v := .bool true) en_kit_SameFunc (fun M w' hh => hS ▸ kit_SameFunc_ct (hg.fun_.now hh) (hf.now hh) hgf hff)) ?_
  refine Ol.p mvb ?_
  refine Ol.gp rfl (fdl fd_api_Func_0) ?_
  refine Ol.gp rfl (ld (v := .slice g.pA f.params.length g.pC) one_L_int (Rd.blk (i := 1) rfl (show g.cells.toArray[0 + 0]? = some (.slice g.pA f.params.length g.pC) from by rw [← hpar]; rfl))) ?_
  refine Ol.gp rfl (fdl fd_api_Func_0) ?_
  refine Ol.gp rfl (ld (v := .slice f.pA f.params.length f.pC) one_L_int (Rd.blk (i := 0) rfl rfl)) ?_
  refine Ol.gs rfl (cl (v := .bool true) en_kit_KeptInts (fun M w' hh => kit_KeptInts_ct (l := f.params) (hgp.now hh) hgc (hf.params.now hh) hp)) ?_
  refine Ol.p (pkTb rfl) ?_
  refine Ol.p mvb ?_
  refine Ol.gp rfl (fdl fd_api_Func_1) ?_
  refine Ol.gp rfl (ld (v := .slice g.bA g.blocks.length g.bC) one_L_api_Block (Rd.blk (i := 1) rfl rfl)) ?_
  refine Ol.gp rfl (fdl fd_api_Func_1) ?_
  refine Ol.gp rfl (ld (v := .slice f.bA f.blocks.length f.bC) one_L_api_Block (Rd.blk (i := 0) rfl rfl)) ?_
  refine Ol.gs rfl (cl (v := .bool true) en_kit_KeptBlocks (fun M w' hh => kit_KeptBlocks_ct hblk (hg.blocks.now hh) hg.bc (fun x hx => (hg.blk x hx).now hh) (hf.blocks.now hh) (fun x hx => (hfr x hx).now hh) hl.len hl.ilen hal)) ?_
  refine Ol.p (pkTb rfl) ?_
  refine Ol.p asb ?_
  refine Ol.nil ?_
  exact Cd.ret ⟨.bool true, ret1 rfl rfl, [], Keep.nil, rfl, rfl⟩
end
end Go.Proofs.YtkefmjhagmacfaaGreatDoor

/- Lists that lie apart: what is marked, what has grown. -/
namespace Go.Proofs.YtkefmjhagmacfaaGreatDoor
set_option linter.unusedVariables false
open Go Go.RowKit

def mkV (k j : Nat) : Value := .int .i64 (mkN k j)
def mkVs (k n : Nat) : List Value := (List.range n).map (mkV k)
theorem mkVs_len (k n : Nat) : (mkVs k n).length = n := by simp [mkVs]
theorem mkVs_get {k n j : Nat} (h : j < n) : (mkVs k n)[j]? = some (mkV k j) := by simp [mkVs, h]
theorem mkVs_of {k n j : Nat} {u : Value} (h : (mkVs k n)[j]? = some u) : j < n ∧ u = mkV k j := by
  have hj := (List.getElem?_eq_some_iff.1 h).1
  rw [mkVs_len] at hj
  rw [mkVs_get hj] at h
  exact ⟨hj, (Option.some.inj h).symm⟩
theorem mkVs_succ (k n : Nat) : mkVs k (n + 1) = mkVs k n ++ [mkV k n] := by simp [mkVs, List.range_succ]
/-- A list: where it lies, its length, its row's length, its room. -/
structure Li where
  A : Option Addr
  n : Nat
  m : Nat
  c : Nat
def Li.v (x : Li) : Value := .slice x.A x.n x.c
def hdL (N : Nat) (it : Nat → Li) : List Value := (List.range N).map fun k => (it k).v
theorem hdL_get {N k : Nat} {it : Nat → Li} (h : k < N) : (hdL N it)[k]? = some (.slice (it k).A (it k).n (it k).c) := by simp [hdL, h, Li.v]
def rowL (x : Li) (xs : List Value) : Res := row (.slice x.A x.m x.c) 3 1 x.m xs
def rowsL (N : Nat) (it : Nat → Li) (X : Nat → List Value) : List Res := (List.range N).map fun k => rowL (it k) (X k)
/-- The lists from the k-th on. -/
def restL (N : Nat) (it : Nat → Li) (X : Nat → List Value) (k : Nat) : List Res := (List.range' k (N - k)).map fun q => rowL (it q) (X q)
theorem restL_cons {N k : Nat} {it : Nat → Li} {X : Nat → List Value} (h : k < N) : restL N it X k = rowL (it k) (X k) :: restL N it X (k + 1) := by
  obtain ⟨q, hq⟩ : ∃ q, N - k = q + 1 := ⟨N - k - 1, by omega⟩
  have h2 : N - (k + 1) = q := by omega
  simp only [restL, hq, h2, List.range'_succ, List.map_cons]
theorem Src.rd {w0 : World} {B : Nat} {L : List Res} {A : Option Addr} {m j : Nat} {ys : List Value} {v : Value} (h : Src w0 B L A m 1 ys) (hj : ys[j]? = some v) : Rd w0 B L (ap A j) v := fun M w hh => by
  rcases h.2 M w hh with ⟨rfl, rfl⟩ | ⟨a, rfl, hc⟩
  · have h1 := h.1
    have h2 := (List.getElem?_eq_some_iff.1 hj).1
    omega
  · exact hc j v hj
theorem Src.som {w0 : World} {B : Nat} {L : List Res} {A : Option Addr} {m : Nat} {ys : List Value} (h : Src w0 B L A m 1 ys) (hm : 0 < m) : Som w0 B L A := fun M w hh => by
  rcases h.2 M w hh with ⟨rfl, rfl⟩ | ⟨a, rfl, hc⟩
  · omega
  · rfl
theorem Src.pre {w0 : World} {B : Nat} {L : List Res} {A : Option Addr} {m n : Nat} {ys zs : List Value} (h : Src w0 B L A m 1 ys) (hl : zs.length = n) (hz : ∀ (j : Nat) (u : Value), zs[j]? = some u → ys[j]? = some u) (hn : A = none → n = 0) : Src w0 B L A n 1 zs := ⟨by omega, fun M w hh => by
  rcases h.2 M w hh with ⟨rfl, rfl⟩ | ⟨a, rfl, hc⟩
  · exact .inl ⟨rfl, hn rfl⟩
  · exact .inr ⟨a, rfl, fun j u hu => hc j u (hz j u hu)⟩⟩
theorem Src.ofblk {w0 : World} {B i g o m : Nat} {L : List Res} {cs : Array Value} {e : TypeId} {fz : Nat × Nat} {ys : List Value} (hi : L[i]? = some (blk g (.cells cs e fz))) (hl : ys.length = m) (hy : ∀ (j : Nat) (u : Value), ys[j]? = some u → cs[o + j]? = some u) : Src w0 B L (some ⟨g, o, none⟩) m 1 ys := ⟨by omega, fun M w hh => .inr ⟨_, rfl, fun j u hu => by
  rw [add_lit_]
  exact Rd.blk hi (hy j u hu) M w hh⟩⟩
/-- A list's own block, that holds its marks. -/
def OwnL (k : Nat) (x : Li) (R : List Res) : Prop := (x.A = none ∧ x.n = 0 ∧ x.c = 0) ∨ ∃ (g o : Nat) (cs : Array Value) (Z : List Res), x.A = some ⟨g, o, none⟩ ∧ R = blk g (.cells cs 3) :: Z ∧ x.n ≤ x.c ∧ o + x.c ≤ cs.size ∧ ∀ j : Nat, j < x.n → cs[o + j]? = some (mkV k j)
theorem OwnL.src {w0 : World} {B k : Nat} {x : Li} {R : List Res} (h : OwnL k x R) : Src w0 B R x.A x.n 1 (mkVs k x.n) := by
  rcases h with ⟨h1, h2, h3⟩ | ⟨g, o, cs, Z, h1, rfl, h3, h4, h5⟩
  · rw [h1, h2]
    exact ⟨rfl, fun M w hh => .inl ⟨rfl, rfl⟩⟩
  · rw [h1]
    refine Src.ofblk (i := 0) rfl (mkVs_len _ _) fun j u hu => ?_
    obtain ⟨hj, rfl⟩ := mkVs_of hu
    exact h5 j hj
/-- A list with its marks, and what it has grown to: the first d of it are known. -/
def GrownL (w0 : World) (B k d : Nat) (x : Li) (R : List Res) (v : Value) : Prop := OwnL k x R ∧ ∃ (A : Option Addr) (c : Nat) (ys : List Value), v = .slice A (x.n + 64) c ∧ Src w0 B R A (x.n + 64) 1 ys ∧ ∀ j : Nat, j < d → ys[j]? = some (mkV k j)
/-- The lists ahead of the k-th have grown. -/
def AllL (w0 : World) (B : Nat) (it : Nat → Li) (d : Nat → Nat) (k : Nat) (D : List (List Res)) (hs : List Value) : Prop := D.length = k ∧ ∀ q, q < k → ∃ R v, D[q]? = some R ∧ hs[q]? = some v ∧ GrownL w0 B q (d q) (it q) R v
theorem AllL.add {w0 : World} {B : Nat} {it : Nat → Li} {d : Nat → Nat} {k : Nat} {D : List (List Res)} {hs : List Value} {R : List Res} {v : Value} (h : AllL w0 B it d k D hs) (hk : k < hs.length) (hr : GrownL w0 B k (d k) (it k) R v) : AllL w0 B it d (k + 1) (D ++ [R]) (hs.set k v) := by
  refine ⟨by simp [h.1], fun q hq => ?_⟩
  rcases Nat.lt_or_ge q k with h1 | h1
  · obtain ⟨R', v', e1, e2, e3⟩ := h.2 q h1
    refine ⟨R', v', ?_, ?_, e3⟩
    · rw [List.getElem?_append_left (by have := h.1; omega)]; exact e1
    · rw [List.getElem?_set_ne (by omega)]; exact e2
  · have : q = k := by omega
    subst this
    refine ⟨R, v, ?_, ?_, hr⟩
    · rw [List.getElem?_append_right (by have := h.1; omega)]
      simp [h.1]
    · rw [List.getElem?_set_self hk]
theorem flat_keep {L : List Res} {D : List (List Res)} {R : List Res} {q : Nat} (h : D[q]? = some R) : Keep (L ++ D.flatten) R :=
  Keep.sub ((List.sublist_flatten_of_mem (List.mem_of_getElem? h)).trans (List.sublist_append_right _ _))
theorem AllL.reads {w0 : World} {B : Nat} {it : Nat → Li} {d : Nat → Nat} {k q : Nat} {D : List (List Res)} {hs : List Value} {L : List Res} (h : AllL w0 B it d k D hs) (hq : q < k) : Src w0 B (L ++ D.flatten) (it q).A (it q).n 1 (mkVs q (it q).n) ∧ ∃ (A : Option Addr) (c : Nat) (ys : List Value), hs[q]? = some (.slice A ((it q).n + 64) c) ∧ Src w0 B (L ++ D.flatten) A ((it q).n + 64) 1 ys ∧ ∀ j : Nat, j < d q → ys[j]? = some (mkV q j) := by
  obtain ⟨R, v, e1, e2, e3, A, c, ys, rfl, e5, e6⟩ := h.2 q hq
  exact ⟨e3.src.sub (flat_keep e1), A, c, ys, e2, e5.sub (flat_keep e1), e6⟩
/-- What the k-th list is, while it grows: in its own block, or in a new one, its old block behind it. -/
def GrowsL (k i : Nat) (x : Li) (v : Value) (S : Res) (Z : List Res) : Prop :=
  (∃ (g o : Nat) (cs : Array Value), Z = [] ∧ x.A = some ⟨g, o, none⟩ ∧ v = .slice (some ⟨g, o, none⟩) (x.n + i) x.c ∧ S = blk g (.cells cs 3) ∧ x.n + i ≤ x.c ∧ o + x.c ≤ cs.size ∧ ∀ j : Nat, j < x.n + i → cs[o + j]? = some (mkV k j)) ∨
  (∃ (A : Option Addr) (c : Nat), v = .slice A (x.n + i) c ∧ S = row (.slice A (x.n + i) c) 3 1 (x.n + i) (mkVs k (x.n + i)) ∧ OwnL k x Z)
theorem GrowsL.done {w0 : World} {B k : Nat} {x : Li} {v : Value} {S : Res} {Z : List Res} (h : GrowsL k 64 x v S Z) : GrownL w0 B k (x.n + 64) x (Z ++ [S]) v := by
  rcases h with ⟨g, o, cs, rfl, h1, h2, rfl, h4, h5, h6⟩ | ⟨A, c, rfl, rfl, h3⟩
  · refine ⟨.inr ⟨g, o, cs, [], h1, rfl, by omega, h5, fun j hj => h6 j (by omega)⟩, _, _, mkVs k (x.n + 64), h2, Src.ofblk (i := 0) rfl (mkVs_len _ _) fun j u hu => ?_, fun j hj => mkVs_get hj⟩
    obtain ⟨hj, rfl⟩ := mkVs_of hu
    exact h6 j hj
  · have hs : Src w0 B (Z ++ [row (.slice A (x.n + 64) c) 3 1 (x.n + 64) (mkVs k (x.n + 64))]) A (x.n + 64) 1 (mkVs k (x.n + 64)) := Src.row (i := Z.length) (c := c) (e := 3) (by simp) (by rw [mkVs_len]; omega)
    refine ⟨?_, A, c, mkVs k (x.n + 64), rfl, hs, fun j hj => mkVs_get hj⟩
    rcases h3 with h | ⟨g, o, cs, Z', h1, rfl, h3, h4, h5⟩
    · exact .inl h
    · exact .inr ⟨g, o, cs, _, h1, rfl, h3, h4, h5⟩
theorem GrowsL.val {k i : Nat} {x : Li} {v : Value} {S : Res} {Z : List Res} (h : GrowsL k i x v S Z) : ∃ A c, v = .slice A (x.n + i) c := by
  rcases h with ⟨g, o, cs, _, _, h2, _⟩ | ⟨A, c, h2, _⟩
  · exact ⟨_, _, h2⟩
  · exact ⟨_, _, h2⟩
theorem GrownL.val {w0 : World} {B k d : Nat} {x : Li} {R : List Res} {v : Value} (h : GrownL w0 B k d x R v) : ∃ A c, v = .slice A (x.n + 64) c := by
  obtain ⟨_, A, c, _, h1, _⟩ := h
  exact ⟨A, c, h1⟩
theorem Cd.rlen {C : Ctx} {k : Code} {Q : Exit → Env → List Res → Prop} {σ : Env} {L : List Res} {i n e s : Nat} {v : Value} {xs : List Value} (hi : L[i]? = some (row v e s n xs)) (h : xs.length = n * s → Cd C k Q σ L) : Cd C k Q σ L := fun a w ha hs =>
  have hown : w.ownsRow 0 e s v n xs := hs.heap.at_ hi
  h hown.1 a w ha hs
/-- A list that is one's own: nothing, or a part of a block, of which the first d have their marks. -/
def OwnP (k d : Nat) (x : Li) (R : Res) : Prop := (x.A = none ∧ x.n = 0 ∧ x.c = 0 ∧ R = row (.slice none 0 0) 3 1 0 []) ∨ ∃ (g o : Nat) (cs : Array Value), x.A = some ⟨g, o, none⟩ ∧ R = blk g (.cells cs 3) ∧ x.n ≤ x.c ∧ o + x.c ≤ cs.size ∧ ∀ j : Nat, j < d → cs[o + j]? = some (mkV k j)
theorem OwnP.grow0 {k : Nat} {x : Li} {R : Res} (h : OwnP k x.n x R) : GrowsL k 0 x (.slice x.A x.n x.c) R [] := by
  rcases h with ⟨h1, h0, h3, rfl⟩ | ⟨g, o, cs, h1, rfl, h2, h3, h4⟩
  · refine .inr ⟨none, 0, by rw [h1, h0, h3], ?_, .inl ⟨h1, h0, h3⟩⟩
    rw [h0]
    rfl
  · exact .inl ⟨g, o, cs, rfl, h1, by rw [h1]; rfl, rfl, by omega, h3, fun j hj => h4 j (by omega)⟩
def resL (N : Nat) (RS : Nat → Res) : List Res := (List.range N).map RS
theorem resL_get {N k : Nat} {RS : Nat → Res} (h : k < N) : (resL N RS)[k]? = some (RS k) := by simp [resL, h]
theorem resL_set {N k : Nat} {RS : Nat → Res} {R : Res} : (resL N RS).set k R = resL N (fun q => if q = k then R else RS q) := by
  apply List.ext_getElem?
  intro j
  rw [List.getElem?_set]
  simp only [resL, List.getElem?_map, List.length_map, List.length_range]
  by_cases h : k = j
  · subst h
    by_cases hj : k < N
    · simp [hj]
    · simp [hj]
  · have : ¬ j = k := fun e => h e.symm
    simp [h, this]
    by_cases hj : j < N
    · simp [hj, this]
    · simp [hj]
def restR (N : Nat) (RS : Nat → Res) (k : Nat) : List Res := (List.range' k (N - k)).map RS
theorem restR_all {N : Nat} {RS : Nat → Res} : resL N RS = restR N RS 0 := by simp [resL, restR, List.range_eq_range']
theorem restR_cons {N k : Nat} {RS : Nat → Res} (h : k < N) : restR N RS k = RS k :: restR N RS (k + 1) := by
  obtain ⟨q, hq⟩ : ∃ q, N - k = q + 1 := ⟨N - k - 1, by omega⟩
  have h2 : N - (k + 1) = q := by omega
  simp only [restR, hq, h2, List.range'_succ, List.map_cons]
theorem restR_end {N : Nat} {RS : Nat → Res} : restR N RS N = [] := by simp [restR]
theorem grows_inA {k i g o : Nat} {x : Li} {cs : Array Value} {sm G H : Res} {Y L' : List Res} {v : Value} (hA : x.A = some ⟨g, o, none⟩) (hle : x.n + i ≤ x.c) (hcs : o + x.c ≤ cs.size) (hm : ∀ j : Nat, j < x.n + i → cs[o + j]? = some (mkV k j))
    (h : Keepq 1 3 g o (x.n + i) 1 x.c cs (mkVs k (x.n + i)) [mkV k (x.n + i)] (sm :: blk g (.cells cs 3) :: G :: H :: ([] ++ Y)) v L') : ∃ S Z, Keep L' (S :: G :: H :: (Z ++ Y)) ∧ GrowsL k (i + 1) x v S Z := by
  rcases h with ⟨cs', h1, rfl, rfl, h2, h3, h4⟩ | ⟨A', c', rfl, rfl⟩
  · refine ⟨blk g (.cells cs' 3), [], .sub (.cons _ (List.Sublist.refl _)), .inl ⟨g, o, cs', rfl, hA, rfl, rfl, by omega, by omega, fun j hj => ?_⟩⟩
    rcases Nat.lt_or_ge j (x.n + i) with h5 | h5
    · rw [h3 j h5]; exact hm j h5
    · have : j = x.n + i := by omega
      subst this
      exact h4 0 _ rfl
  · refine ⟨row (.slice A' (x.n + i + 1) c') 3 1 (x.n + i + 1) (mkVs k (x.n + i) ++ [mkV k (x.n + i)]), [blk g (.cells cs 3)], keep_count [sm] (fun _ x => by simp only [List.set_cons_succ, List.set_cons_zero, List.count_append, List.count_cons, List.count_nil, List.cons_append, List.nil_append]; omega), .inr ⟨A', c', rfl, by rw [← mkVs_succ]; rfl, .inr ⟨g, o, cs, [], hA, rfl, by omega, hcs, fun j hj => hm j (by omega)⟩⟩⟩
theorem grows_inB {k i c : Nat} {A : Option Addr} {x : Li} {sm G H : Res} {Z Y L' : List Res} {v : Value} (hZ : OwnL k x Z)
    (h : Grow 1 3 1 (x.n + i + 1) (mkVs k (x.n + i) ++ [mkV k (x.n + i)]) (sm :: row (.slice A (x.n + i) c) 3 1 (x.n + i) (mkVs k (x.n + i)) :: G :: H :: (Z ++ Y)) v L') : ∃ S Z, Keep L' (S :: G :: H :: (Z ++ Y)) ∧ GrowsL k (i + 1) x v S Z := by
  obtain ⟨A', c', rfl, rfl⟩ := h
  exact ⟨row (.slice A' (x.n + i + 1) c') 3 1 (x.n + i + 1) (mkVs k (x.n + i) ++ [mkV k (x.n + i)]), Z, .sub (.cons _ (List.Sublist.refl _)), .inr ⟨A', c', rfl, by rw [← mkVs_succ]; rfl, hZ⟩⟩
theorem grown_A {w0 : World} {B k g o : Nat} {x : Li} {cs : Array Value} {sm G H : Res} {Y L' : List Res} {ys : List Value} {v : Value} (hyl : ys.length = 64) (hA : x.A = some ⟨g, o, none⟩) (hle : x.n ≤ x.c) (hcs : o + x.c ≤ cs.size) (hm : ∀ j : Nat, j < x.n → cs[o + j]? = some (mkV k j))
    (h : Keepq 1 3 g o x.n 64 x.c cs (mkVs k x.n) ys (sm :: blk g (.cells cs 3) :: G :: H :: Y) v L') : ∃ R, Keep L' (G :: H :: (R ++ Y)) ∧ GrownL w0 B k x.n x R v := by
  rcases h with ⟨cs', h1, rfl, rfl, h2, h3, h4⟩ | ⟨A', c', rfl, rfl⟩
  · have hm' : ∀ j : Nat, j < x.n → cs'[o + j]? = some (mkV k j) := fun j hj => by rw [h3 j hj]; exact hm j hj
    refine ⟨[blk g (.cells cs' 3)], keep_count [sm] (fun _ x => by simp only [List.set_cons_succ, List.set_cons_zero, List.count_append, List.count_cons, List.count_nil, List.cons_append, List.nil_append]; omega), .inr ⟨g, o, cs', [], hA, rfl, hle, by omega, hm'⟩, _, _, (cs'.toList.drop o).take (x.n + 64), rfl, Src.ofblk (i := 0) rfl (by simp; omega) fun j u hu => ?_, fun j hj => ?_⟩
    · rw [List.getElem?_take] at hu
      split at hu
      · rw [List.getElem?_drop] at hu
        simpa using hu
      · cases hu
    · rw [List.getElem?_take, if_pos (by omega), List.getElem?_drop]
      simpa using hm' j hj
  · refine ⟨[blk g (.cells cs 3), row (.slice A' (x.n + 64) c') 3 1 (x.n + 64) (mkVs k x.n ++ ys)], keep_count [sm] (fun _ x => by simp only [List.set_cons_succ, List.set_cons_zero, List.count_append, List.count_cons, List.count_nil, List.cons_append, List.nil_append]; omega), .inr ⟨g, o, cs, [_], hA, rfl, hle, hcs, hm⟩, A', c', mkVs k x.n ++ ys, rfl, Src.row (i := 1) (c := c') (e := 3) rfl (by simp [mkVs_len, hyl]), fun j hj => ?_⟩
    rw [List.getElem?_append_left (by rw [mkVs_len]; exact hj)]
    exact mkVs_get hj
theorem grown_B {w0 : World} {B k : Nat} {x : Li} {sm G H : Res} {Y L' : List Res} {ys : List Value} {v : Value} (hyl : ys.length = 64) (hA : x.A = none) (hn : x.n = 0) (hc : x.c = 0)
    (h : Grow 1 3 1 (0 + 64) ([] ++ ys) (sm :: row (.slice none 0 0) 3 1 0 [] :: G :: H :: Y) v L') : ∃ R, Keep L' (G :: H :: (R ++ Y)) ∧ GrownL w0 B k x.n x R v := by
  obtain ⟨A', c', rfl, rfl⟩ := h
  refine ⟨[row (.slice A' (0 + 64) c') 3 1 (0 + 64) ([] ++ ys)], keep_count [sm] (fun _ x => by simp only [List.set_cons_succ, List.set_cons_zero, List.count_append, List.count_cons, List.count_nil, List.cons_append, List.nil_append]; omega), .inl ⟨hA, hn, hc⟩, A', c', [] ++ ys, by rw [hn], ?_, fun j hj => by omega⟩
  rw [hn]
  exact Src.row (i := 0) (c := c') (e := 3) rfl (by simp [hyl])
theorem keep_P2 {S G H : Res} {Z rest : List Res} {D : List (List Res)} : Keep (S :: G :: H :: (Z ++ (rest ++ D.flatten))) (G :: H :: (rest ++ (D ++ [Z ++ [S]]).flatten)) := by
  rw [List.flatten_append]
  simp only [List.flatten_cons, List.flatten_nil, List.append_nil]
  exact keep_count [] (fun _ x => by simp only [List.set_cons_succ, List.set_cons_zero, List.count_append, List.count_cons, List.count_nil, List.cons_append, List.nil_append]; omega)
theorem keep_P4 {G H : Res} {R rest : List Res} {D : List (List Res)} : Keep (G :: H :: (R ++ (rest ++ D.flatten))) (G :: H :: (rest ++ (D ++ [R]).flatten)) := by
  rw [List.flatten_append]
  simp only [List.flatten_cons, List.flatten_nil, List.append_nil]
  exact keep_count [] (fun _ x => by simp only [List.set_cons_succ, List.set_cons_zero, List.count_append, List.count_cons, List.count_nil, List.cons_append, List.nil_append]; omega)
theorem keep_S2 {S G H : Res} {rest W : List Res} : Keep (G :: H :: ((S :: rest) ++ W)) (S :: G :: H :: (rest ++ W)) := keep_count [] (fun _ x => by simp only [List.set_cons_succ, List.set_cons_zero, List.count_append, List.count_cons, List.count_nil, List.cons_append, List.nil_append]; omega)
theorem keep_S4a {Sm S G H : Res} {Z rest W : List Res} : Keep (Sm :: G :: H :: (((S :: Z) ++ rest) ++ W)) (Sm :: S :: G :: H :: (rest ++ W)) := keep_count Z (fun _ x => by simp only [List.set_cons_succ, List.set_cons_zero, List.count_append, List.count_cons, List.count_nil, List.cons_append, List.nil_append]; omega)
theorem keep_S4b {Sm S G H : Res} {R rest W : List Res} : Keep (S :: Sm :: G :: H :: ((R ++ rest) ++ W)) (Sm :: S :: G :: H :: (rest ++ W)) := keep_count R (fun _ x => by simp only [List.set_cons_succ, List.set_cons_zero, List.count_append, List.count_cons, List.count_nil, List.cons_append, List.nil_append]; omega)
theorem drop_of {α : Type} {l : List α} {k : Nat} {x : α} (h : l[k]? = some x) : l.drop k = x :: l.drop (k + 1) := by
  obtain ⟨h1, rfl⟩ := List.getElem?_eq_some_iff.1 h
  exact List.drop_eq_getElem_cons h1
theorem AllL.own {w0 : World} {B : Nat} {it : Nat → Li} {d : Nat → Nat} {k q : Nat} {D : List (List Res)} {hs : List Value} (h : AllL w0 B it d k D hs) (hq : q < k) : ∃ R, D[q]? = some R ∧ OwnL q (it q) R := by
  obtain ⟨R, v, e1, _, e3, _⟩ := h.2 q hq
  exact ⟨R, e1, e3⟩
theorem one_set {ys : List Value} {i : Nat} {v : Value} (h : ∀ u ∈ ys, u.oneCell' = true) (hv : v.oneCell' = true) : ∀ u ∈ ys.set i v, u.oneCell' = true := fun u hu => by
  rcases List.mem_or_eq_of_mem_set hu with h1 | rfl
  · exact h u h1
  · exact hv
end Go.Proofs.YtkefmjhagmacfaaGreatDoor

/- The kit: lists of numbers lie apart, walked. -/
namespace Go.Proofs.YtkefmjhagmacfaaGreatDoor
set_option linter.unusedVariables false
set_option linter.unusedSimpArgs false
open Go Go.RowKit
set_option maxRecDepth 100000
section
set_option maxHeartbeats 4000000 in
theorem kit_flatInts_cm {w0 : World} {B N cL : Nat} {AL : Option Addr} {it : Nat → Li} {R0 : Nat → Res} (hN : N < 50000) (h0 : ∀ k, k < N → OwnP k 0 (it k) (R0 k)) (hns : ∀ k, k < N → (it k).n < 2 ^ 39) :
    Cm Tryz.prog 91 #[.slice AL N cL] w0 B (row (.slice AL N cL) 22 1 N (hdL N it) :: resL N R0) (Is (.bool true)) := by
  refine Cm.mk Tryz.func91 rfl rfl fun M => ?_
  refine Cd.seq ?_
  refine Cd.region ?_
  refine Ol.p asb ?_
  refine Ol.nil ?_
  refine Cd.seq ?_
  refine Cd.seq ?_
  refine Cd.region ?_
  refine Ol.p asi ?_
  refine Ol.nil ?_
  refine Cd.block ?_
  refine Cd.loop (fun m σ L => ∃ (k : Nat) (X : Nat → Res), m = N - k ∧ k ≤ N ∧ Has σ [(0, .slice AL N cL), (3, .int .i64 k)] ∧ (∀ q, q < k → OwnP q (it q).n (it q) (X q)) ∧ (∀ q, k ≤ q → q < N → OwnP q 0 (it q) (X q)) ∧ row (.slice AL N cL) 22 1 N (hdL N it) :: resL N X = L) (n := N) ⟨0, R0, rfl, Nat.zero_le _, ⟨rfl, rfl, trivial⟩, fun q hq => by omega, fun q _ hq => h0 q hq, rfl⟩ ?_
  rintro _ σ L ⟨k, X, rfl, hk, hs, hxl, hxm, rfl⟩
  refine Cd.has hs ?_
  clear hs
  refine Cd.seq ?_
  refine Cd.seq ?_
  refine Cd.region ?_
  refine Ol.p mvi ?_
  refine Ol.p mvs ?_
  refine Ol.p (lens sl_L_L_int) ?_
  refine Ol.p lsi ?_
  refine Ol.nil ?_
  refine Cd.cond rfl (fun h => ?_) (fun h => ?_)
  · have hlt : k < N := by
      have h : decide ((k : Int) < (N : Int)) = true := h
      have := of_decide_eq_true h
      omega
    obtain ⟨x, hx⟩ : ∃ x, x = it k := ⟨_, rfl⟩
    have hnk := hns k hlt
    rw [← hx] at hnk
    have hd : (hdL N it)[k * 1]? = some (.slice x.A x.n x.c) := by rw [Nat.mul_one, hdL_get hlt, hx]
    refine Cd.skip ?_
    refine Cd.seq ?_
    refine Cd.block ?_
    refine Cd.seq ?_
    refine Cd.region ?_
    refine Ol.p asi ?_
    refine Ol.nil ?_
    refine Cd.block ?_
    refine Cd.loop (fun m σ L => ∃ (i : Nat) (Y : Nat → Res), m = x.n - i ∧ i ≤ x.n ∧ Has σ [(0, .slice AL N cL), (3, .int .i64 k), (4, .int .i64 i)] ∧ (∀ q, q < k → OwnP q (it q).n (it q) (Y q)) ∧ OwnP k i x (Y k) ∧ (∀ q, k < q → q < N → OwnP q 0 (it q) (Y q)) ∧ row (.slice AL N cL) 22 1 N (hdL N it) :: resL N Y = L) (n := x.n) ⟨0, X, rfl, Nat.zero_le _, ⟨rfl, rfl, rfl, trivial⟩, hxl, by rw [hx]; exact hxm k (Nat.le_refl _) hlt, fun q hq => hxm q (by omega), rfl⟩ ?_
    rintro _ σ L ⟨i, Y, rfl, hi, hs, hyl, hyk, hym, rfl⟩
    refine Cd.has hs ?_
    clear hs
    have hrk : (row (.slice AL N cL) 22 1 N (hdL N it) :: resL N Y)[k + 1]? = some (Y k) := by
      rw [List.getElem?_cons_succ, resL_get hlt]
    refine Cd.seq ?_
    refine Cd.seq ?_
    refine Cd.region ?_
    refine Ol.p mvi ?_
    refine Ol.p mvs ?_
    refine Ol.p mvi ?_
    refine Ol.p (ixn (ix := k) sl_L_L_int (Som.row (i := 0) rfl (by omega))) ?_
    refine Ol.p (ld (v := .slice x.A x.n x.c) one_L_int (Rd.row (i := 0) rfl hd)) ?_
    refine Ol.p (lens sl_L_int) ?_
    refine Ol.p lsi ?_
    refine Ol.nil ?_
    refine Cd.cond rfl (fun h => ?_) (fun h => ?_)
    · have hil : i < x.n := by
        have h : decide ((i : Int) < (x.n : Int)) = true := h
        have := of_decide_eq_true h
        omega
      obtain ⟨g, o, cs, hxA, hYk, hle, hcs, hmv⟩ : ∃ (g o : Nat) (cs : Array Value), x.A = some ⟨g, o, none⟩ ∧ Y k = blk g (.cells cs 3) ∧ x.n ≤ x.c ∧ o + x.c ≤ cs.size ∧ ∀ j : Nat, j < i → cs[o + j]? = some (mkV k j) := by
        rcases hyk with ⟨_, h2, _⟩ | h
        · omega
        · exact h
      rw [hYk] at hrk
      rw [hxA] at hd
      refine Cd.skip ?_
      refine Cd.seq ?_
      refine Cd.block ?_
      refine Cd.draw mixed 9 (exIs (fun opNo => match opNo with | 7 => some (mkV k i) | _ => none)) (fun _ => []) (by kernel_rfl) exIs_in (fun u hu => ?_)
      refine Wk.p mvs ?_
      refine Wk.p mvi ?_
      refine Wk.p (ixn (ix := k) sl_L_L_int (Som.row (i := 0) rfl (by omega))) ?_
      refine Wk.p (ld (v := .slice (some ⟨g, o, none⟩) x.n x.c) one_L_int (Rd.row (i := 0) rfl hd)) ?_
      refine Wk.p mvi ?_
      refine Wk.p mvi ?_
      refine Wk.p mvi ?_
      refine Wk.dk hu (sp_call (vs := [.int .i64 (k : Int), .int .i64 (i : Int)]) en_kit_mark (fun M w' hh => kit_mark_ct (by omega) (by omega))) ?_
      refine Wk.p (ixo (ix := i) sl_L_int) ?_
      refine Wk.nil ?_
      rw [needs_exIs hu rfl]
      refine Ol.s (sto (i := k + 1) (k := o + i * 1) (v := mkV k i) (.inr sz_int) rfl rfl hrk (by omega) rfl) ?_
      refine Ol.nil ?_
      refine Cd.region ?_
      refine Ol.p mvi ?_
      refine Ol.p addi ?_
      refine Ol.p asi ?_
      refine Ol.nil ?_
      refine ⟨x.n - (i + 1), by omega, i + 1, fun q => if q = k then blk g (.cells (cs.setIfInBounds (o + i * 1) (mkV k i)) 3) else Y q, rfl, by omega, ⟨rfl, rfl, rfl, trivial⟩, ?_, ?_, ?_, ?_⟩
      · intro q hq
        have e : q ≠ k := by omega
        simp only [if_neg e]
        exact hyl q hq
      · simp only [if_pos]
        refine .inr ⟨g, o, _, hxA, rfl, hle, by simpa using hcs, fun j hj => ?_⟩
        rcases Nat.lt_or_ge j i with h1 | h1
        · rw [Array.getElem?_setIfInBounds_ne (by omega)]
          exact hmv j h1
        · have : j = i := by omega
          subst this
          rw [Nat.mul_one, Array.getElem?_setIfInBounds_self_of_lt (by omega)]
      · intro q hq hqN
        have e : q ≠ k := by omega
        simp only [if_neg e]
        exact hym q hq hqN
      · rw [List.set_cons_succ]
        exact congrArg _ resL_set.symm
    have hie : i = x.n := by
      have h : decide ((i : Int) < (x.n : Int)) = false := h
      have := of_decide_eq_false h
      omega
    subst hie
    refine Cd.exit (id := 2) ?_
    refine Cd.region ?_
    refine Ol.p mvi ?_
    refine Ol.p addi ?_
    refine Ol.p asi ?_
    refine Ol.nil ?_
    refine ⟨N - (k + 1), by omega, k + 1, Y, rfl, by omega, ⟨rfl, rfl, trivial⟩, fun q hq => ?_, fun q hq => hym q (by omega), rfl⟩
    rcases Nat.lt_or_ge q k with h1 | h1
    · exact hyl q h1
    · have : q = k := by omega
      subst this
      rw [← hx]
      exact hyk
  have hke : k = N := by
    have h : decide ((k : Int) < (N : Int)) = false := h
    have := of_decide_eq_false h
    omega
  obtain rfl : N = k := hke.symm
  refine Cd.exit (id := 0) ?_
  refine Cd.seq ?_
  refine Cd.region ?_
  refine Ol.p mvs ?_
  refine Ol.p (lens sl_L_L_int) ?_
  refine Ol.x (mks (n := N) (c := N) sl_L_L_int zr_L_int) ?_
  rintro _ _ ⟨gm, rfl, rfl⟩
  refine Ol.p ass ?_
  refine Ol.nil ?_
  obtain ⟨H0, hH0⟩ : ∃ H0, H0 = (madeCells (Value.slice none 0 0).cells (N * 1)).toList.take (N * 1) := ⟨_, rfl⟩
  rw [← hH0]
  refine Cd.rlen (i := 0) (xs := H0) (n := N) (s := 1) rfl fun hH0l => ?_
  rw [Nat.mul_one] at hH0l
  clear hH0
  rw [restR_all]
  obtain ⟨Hd, hHd⟩ : ∃ Hd, Hd = row (.slice AL N cL) 22 1 N (hdL N it) := ⟨_, rfl⟩
  rw [← hHd]
  obtain ⟨dd, hdd⟩ : ∃ dd : Nat → Nat, dd = fun q => (it q).n + 64 := ⟨_, rfl⟩
  refine Cd.seq ?_
  refine Cd.seq ?_
  refine Cd.region ?_
  refine Ol.p asi ?_
  refine Ol.nil ?_
  refine Cd.block ?_
  refine Cd.loop (fun m σ L => ∃ (k : Nat) (hs : List Value) (D : List (List Res)), m = N - k ∧ k ≤ N ∧ Has σ [(0, .slice AL N cL), (5, .slice (some ⟨gm, 0, none⟩) N N), (6, .int .i64 k)] ∧ hs.length = N ∧ AllL w0 B it dd k D hs ∧ row (.slice (some ⟨gm, 0, none⟩) N N) 22 1 N hs :: Hd :: (restR N X k ++ D.flatten) = L) (n := N) ⟨0, H0, [], rfl, Nat.zero_le _, ⟨rfl, rfl, rfl, trivial⟩, hH0l, ⟨rfl, fun q hq => by omega⟩, by rw [List.flatten_nil, List.append_nil]⟩ ?_
  rintro _ σ L ⟨k, hs, D, rfl, hk, hs', hsl, hA, rfl⟩
  refine Cd.has hs' ?_
  clear hs'
  refine Cd.seq ?_
  refine Cd.seq ?_
  refine Cd.region ?_
  refine Ol.p mvi ?_
  refine Ol.p mvs ?_
  refine Ol.p (lens sl_L_L_int) ?_
  refine Ol.p lsi ?_
  refine Ol.nil ?_
  refine Cd.cond rfl (fun h => ?_) (fun h => ?_)
  · have hlt : k < N := by
      have h : decide ((k : Int) < (N : Int)) = true := h
      have := of_decide_eq_true h
      omega
    obtain ⟨x, hx⟩ : ∃ x, x = it k := ⟨_, rfl⟩
    have hnk := hns k hlt
    have hmm := hxl k hlt
    rw [← hx] at hnk hmm
    have hd : (hdL N it)[k * 1]? = some (.slice x.A x.n x.c) := by rw [Nat.mul_one, hdL_get hlt, hx]
    refine Cd.skip ?_
    refine Cd.seq ?_
    refine Cd.block ?_
    refine Cd.seq ?_
    refine Cd.region ?_
    refine Ol.p mvs ?_
    refine Ol.p mvi ?_
    refine Ol.p (ixn (ix := k) sl_L_L_int (Som.row (i := 1) (congrArg some hHd) (by omega))) ?_
    refine Ol.p (ld (v := .slice x.A x.n x.c) one_L_int (Rd.row (i := 1) (congrArg some hHd) hd)) ?_
    refine Ol.p ass ?_
    refine Ol.nil ?_
    rw [restR_cons hlt]
    refine Cd.keep keep_S2 ?_
    obtain ⟨Y, hY⟩ : ∃ Y, Y = restR N X (k + 1) ++ D.flatten := ⟨_, rfl⟩
    rw [← hY]
    refine Cd.seq ?_
    refine Cd.seq ?_
    refine Cd.region ?_
    refine Ol.p asi ?_
    refine Ol.nil ?_
    refine Cd.block ?_
    obtain ⟨S0, hS⟩ : ∃ S0, S0 = X k := ⟨_, rfl⟩
    have hS0 : GrowsL k 0 x (.slice x.A x.n x.c) S0 [] := by rw [hS]; exact hmm.grow0
    rw [← hS]
    refine Cd.loop (fun m σ L => ∃ (i : Nat) (v : Value) (S : Res) (Z : List Res), m = 64 - i ∧ i ≤ 64 ∧ Has σ [(0, .slice AL N cL), (5, .slice (some ⟨gm, 0, none⟩) N N), (6, .int .i64 k), (7, v), (8, .int .i64 i)] ∧ GrowsL k i x v S Z ∧ S :: row (.slice (some ⟨gm, 0, none⟩) N N) 22 1 N hs :: Hd :: (Z ++ Y) = L) (n := 64) ⟨0, _, S0, [], rfl, Nat.zero_le _, ⟨rfl, rfl, rfl, rfl, rfl, trivial⟩, hS0, rfl⟩ ?_
    rintro _ σ L ⟨i, v, S, Z, rfl, hi, hs', hG, rfl⟩
    refine Cd.has hs' ?_
    clear hs'
    refine Cd.seq ?_
    refine Cd.seq ?_
    refine Cd.region ?_
    refine Ol.p mvi ?_
    refine Ol.p lsi ?_
    refine Ol.nil ?_
    refine Cd.cond rfl (fun h => ?_) (fun h => ?_)
    · have hil : i < 64 := by
        have h : decide ((i : Int) < 64) = true := h
        have := of_decide_eq_true h
        omega
      have hmk2 : ∀ w', Ct Tryz.prog 49 #[.int .i64 (k : Int), .int .i64 ((x.n : Int) + (i : Int))] w' (Is (mkV k (x.n + i))) := fun w' => by
        rw [show (x.n : Int) + (i : Int) = ((x.n + i : Nat) : Int) by omega]
        exact kit_mark_ct (by omega) (by omega)
      refine Cd.skip ?_
      refine Cd.mid (fun σ' L' => ∃ (v' : Value) (S' : Res) (Z' : List Res), Has σ' [(0, .slice AL N cL), (5, .slice (some ⟨gm, 0, none⟩) N N), (6, .int .i64 k), (7, v'), (8, .int .i64 i)] ∧ GrowsL k (i + 1) x v' S' Z' ∧ S' :: row (.slice (some ⟨gm, 0, none⟩) N N) 22 1 N hs :: Hd :: (Z' ++ Y) = L') ?_ ?_
      · refine Cd.block ?_
        rcases hG with ⟨g, o, cs, rfl, hxA, rfl, rfl, hle, hcs, hmv⟩ | ⟨A, c, rfl, rfl, hZ⟩
        · skip
          refine Cd.region ?_
          refine Ol.p mvs ?_
          refine Ol.p mvi ?_
          refine Ol.p mvs ?_
          refine Ol.p mvi ?_
          refine Ol.p (ixn (ix := k) sl_L_L_int (Som.row (i := 2) (congrArg some hHd) (by omega))) ?_
          refine Ol.p (ld (v := .slice x.A x.n x.c) one_L_int (Rd.row (i := 2) (congrArg some hHd) hd)) ?_
          refine Ol.p (lens sl_L_int) ?_
          refine Ol.p mvi ?_
          refine Ol.p addi ?_
          refine Ol.s (cl (v := mkV k (x.n + i)) (vs := [.int .i64 (k : Int), .int .i64 ((x.n : Int) + (i : Int))]) en_kit_mark (fun M w' hh => hmk2 w')) ?_
          refine Ol.x (bsv [mkV k (x.n + i)] sl_L_int zr_int (by simp [Value.cells, mkV])) ?_
          rintro _ _ ⟨g19, rfl, rfl⟩
          refine Ol.x (apk (i := 1) (n := x.n + i) (m := 1) (c := x.c) (xs := mkVs k (x.n + i)) sl_L_int zr_int rfl rfl hcs hle (mkVs_len _ _) (fun j u hu => by obtain ⟨hj, rfl⟩ := mkVs_of hu; exact hmv j hj) (by decide) (Src.row (i := 0) rfl rfl) (by intro u hu; simp at hu; subst hu; rfl) (by unfold maxLen; omega) (by omega)) ?_
          rintro v' L' hK; obtain ⟨S', Z', hkp, hG'⟩ := grows_inA hxA hle hcs hmv hK; refine Ol.keep hkp ?_
          refine Ol.p (as_ rfl) ?_
          refine Ol.nil ?_
          exact ⟨v', S', Z', ⟨rfl, rfl, rfl, rfl, rfl, trivial⟩, hG', rfl⟩
        · skip
          refine Cd.region ?_
          refine Ol.p mvs ?_
          refine Ol.p mvi ?_
          refine Ol.p mvs ?_
          refine Ol.p mvi ?_
          refine Ol.p (ixn (ix := k) sl_L_L_int (Som.row (i := 2) (congrArg some hHd) (by omega))) ?_
          refine Ol.p (ld (v := .slice x.A x.n x.c) one_L_int (Rd.row (i := 2) (congrArg some hHd) hd)) ?_
          refine Ol.p (lens sl_L_int) ?_
          refine Ol.p mvi ?_
          refine Ol.p addi ?_
          refine Ol.s (cl (v := mkV k (x.n + i)) (vs := [.int .i64 (k : Int), .int .i64 ((x.n : Int) + (i : Int))]) en_kit_mark (fun M w' hh => hmk2 w')) ?_
          refine Ol.x (bsv [mkV k (x.n + i)] sl_L_int zr_int (by simp [Value.cells, mkV])) ?_
          rintro _ _ ⟨g19, rfl, rfl⟩
          refine Ol.x (apn (i := 1) (n := x.n + i) (m := 1) sl_L_int zr_int rfl (by decide) rfl (Src.row (i := 0) rfl rfl) (by intro u hu; simp at hu; subst hu; rfl) (by unfold maxLen; omega) (by omega)) ?_
          rintro v' L' hK; obtain ⟨S', Z', hkp, hG'⟩ := grows_inB hZ hK; refine Ol.keep hkp ?_
          refine Ol.p (as_ rfl) ?_
          refine Ol.nil ?_
          exact ⟨v', S', Z', ⟨rfl, rfl, rfl, rfl, rfl, trivial⟩, hG', rfl⟩
      rintro σ' _ ⟨v', S', Z', hs', hG', rfl⟩
      refine Cd.has hs' ?_
      clear hs'
      refine Cd.region ?_
      refine Ol.p mvi ?_
      refine Ol.p addi ?_
      refine Ol.p asi ?_
      refine Ol.nil ?_
      exact ⟨64 - (i + 1), by omega, i + 1, v', S', Z', rfl, by omega, ⟨rfl, rfl, rfl, rfl, rfl, trivial⟩, hG', rfl⟩
    have hie : i = 64 := by
      have h : decide ((i : Int) < 64) = false := h
      have := of_decide_eq_false h
      omega
    subst hie
    refine Cd.exit (id := 6) ?_
    have hgr := hG.done (w0 := w0) (B := B)
    obtain ⟨A7, c7, rfl⟩ := hG.val
    refine Cd.region ?_
    refine Ol.p mvs ?_
    refine Ol.p mvi ?_
    refine Ol.p mvs ?_
    refine Ol.p (ixn1 (ix := k) sl_L_L_int (Som.row (i := 1) rfl (by omega))) ?_
    refine Ol.s (str (i := 1) (k := k) (v := .slice A7 (x.n + 64) c7) sz_L_int rfl rfl rfl (by omega) rfl) ?_
    refine Ol.nil ?_
    rw [hY]
    refine Cd.keep keep_P2 ?_
    refine Cd.region ?_
    refine Ol.p mvi ?_
    refine Ol.p addi ?_
    refine Ol.p asi ?_
    refine Ol.nil ?_
    exact ⟨N - (k + 1), by omega, k + 1, hs.set k _, D ++ [Z ++ [S]], rfl, by omega, ⟨rfl, rfl, rfl, trivial⟩, by simp [hsl], hA.add (by omega) (by rw [hdd]; show GrownL w0 B k ((it k).n + 64) (it k) _ _; rw [← hx]; exact hgr), rfl⟩
  have hke : k = N := by
    have h : decide ((k : Int) < (N : Int)) = false := h
    have := of_decide_eq_false h
    omega
  obtain rfl : N = k := hke.symm
  refine Cd.exit (id := 4) ?_
  rw [restR_end, List.nil_append]
  obtain ⟨LL, hLL⟩ : ∃ LL, LL = row (.slice (some ⟨gm, 0, none⟩) N N) 22 1 N hs :: Hd :: D.flatten := ⟨_, rfl⟩
  have hG0 : LL[0]? = some (row (.slice (some ⟨gm, 0, none⟩) N N) 22 1 N hs) := by rw [hLL]; rfl
  have hrd : ∀ q, q < N → Src w0 B LL (it q).A (it q).n 1 (mkVs q (it q).n) ∧ ∃ (A : Option Addr) (c : Nat) (ys : List Value), hs[q]? = some (.slice A ((it q).n + 64) c) ∧ Src w0 B LL A ((it q).n + 64) 1 ys ∧ ∀ j : Nat, j < (it q).n + 64 → ys[j]? = some (mkV q j) := fun q hq => by
    have := hA.reads (L := [row (.slice (some ⟨gm, 0, none⟩) N N) 22 1 N hs, Hd]) hq
    rw [hdd] at this
    rw [hLL]
    exact this
  have hLd : LL[1]? = some (row (.slice AL N cL) 22 1 N (hdL N it)) := by rw [hLL, hHd]; rfl
  rw [← hLL]
  refine Cd.seq ?_
  refine Cd.seq ?_
  refine Cd.region ?_
  refine Ol.p asi ?_
  refine Ol.nil ?_
  refine Cd.block ?_
  refine Cd.loop (fun m σ L => ∃ k : Nat, m = N - k ∧ k ≤ N ∧ Has σ [(0, .slice AL N cL), (5, .slice (some ⟨gm, 0, none⟩) N N), (9, .int .i64 k)] ∧ LL = L) (n := N) ⟨0, rfl, Nat.zero_le _, ⟨rfl, rfl, rfl, trivial⟩, rfl⟩ ?_
  rintro _ σ _ ⟨k, rfl, hk, hs', rfl⟩
  refine Cd.has hs' ?_
  clear hs'
  refine Cd.seq ?_
  refine Cd.seq ?_
  refine Cd.region ?_
  refine Ol.p mvi ?_
  refine Ol.p mvs ?_
  refine Ol.p (lens sl_L_L_int) ?_
  refine Ol.p lsi ?_
  refine Ol.nil ?_
  refine Cd.cond rfl (fun h => ?_) (fun h => ?_)
  · have hlt : k < N := by
      have h : decide ((k : Int) < (N : Int)) = true := h
      have := of_decide_eq_true h
      omega
    obtain ⟨hsl2, Ag, cg, ys, hgk, hsg, hyg⟩ := hrd k hlt
    obtain ⟨x, hx⟩ : ∃ x, x = it k := ⟨_, rfl⟩
    have hnk := hns k hlt
    have hd : (hdL N it)[k * 1]? = some (.slice x.A x.n x.c) := by rw [Nat.mul_one, hdL_get hlt, hx]
    rw [← hx] at hnk hsl2 hgk hsg hyg
    have hgk1 : hs[k * 1]? = some (.slice Ag (x.n + 64) cg) := by rw [Nat.mul_one]; exact hgk
    refine Cd.skip ?_
    refine Cd.seq ?_
    refine Cd.block ?_
    refine Cd.seq ?_
    refine Cd.region ?_
    refine Ol.p asi ?_
    refine Ol.nil ?_
    refine Cd.block ?_
    refine Cd.loop (fun m σ L => ∃ i : Nat, m = x.n + 64 - i ∧ i ≤ x.n + 64 ∧ Has σ [(0, .slice AL N cL), (5, .slice (some ⟨gm, 0, none⟩) N N), (9, .int .i64 k), (10, .int .i64 i)] ∧ LL = L) (n := x.n + 64) ⟨0, rfl, Nat.zero_le _, ⟨rfl, rfl, rfl, rfl, trivial⟩, rfl⟩ ?_
    rintro _ σ _ ⟨i, rfl, hi, hs', rfl⟩
    refine Cd.has hs' ?_
    clear hs'
    refine Cd.seq ?_
    refine Cd.seq ?_
    refine Cd.region ?_
    refine Ol.p mvi ?_
    refine Ol.p mvs ?_
    refine Ol.p mvi ?_
    refine Ol.p (ixn (ix := k) sl_L_L_int (Som.row hG0 (by omega))) ?_
    refine Ol.p (ld (v := .slice Ag (x.n + 64) cg) one_L_int (Rd.row hG0 hgk1)) ?_
    refine Ol.p (lens sl_L_int) ?_
    refine Ol.p lsi ?_
    refine Ol.nil ?_
    refine Cd.cond rfl (fun h => ?_) (fun h => ?_)
    · have hil : i < x.n + 64 := by
        have h : decide ((i : Int) < ((x.n + 64 : Nat) : Int)) = true := h
        have := of_decide_eq_true h
        omega
      have q12 : (!decide (mkN k i = mkN k i)) = false := by simp
      refine Cd.skip ?_
      refine Cd.seq ?_
      refine Cd.block ?_
      refine Cd.mid (fun σ' L' => Has σ' [(0, .slice AL N cL), (5, .slice (some ⟨gm, 0, none⟩) N N), (9, .int .i64 k), (10, .int .i64 i), (122, .bool false)] ∧ LL = L') ?_ ?_
      · cases q20 : decide ((i : Int) < (x.n : Int)) with
        | true =>
          have hin : i < x.n := by have := of_decide_eq_true q20; omega
          refine Cd.draw mixed 35 (exIs (fun opNo => match opNo with | 9 => some ((.int .i64 (mkN k i))) | 30 => some ((.int .i64 (mkN k i))) | _ => none)) (fun _ => []) (by kernel_rfl) exIs_in (fun u hu => ?_)
          refine Wk.p mvs ?_
          refine Wk.p mvi ?_
          refine Wk.p (ixn (ix := k) sl_L_L_int (Som.row hG0 (by omega))) ?_
          refine Wk.p (ld (v := .slice Ag (x.n + 64) cg) one_L_int (Rd.row hG0 hgk1)) ?_
          refine Wk.p mvi ?_
          refine Wk.p (ixn1 (ix := i) sl_L_int (Src.som hsg (by omega))) ?_
          refine Wk.p (ld (v := .int .i64 (mkN k i)) one_int (Src.rd hsg (hyg i hil))) ?_
          refine Wk.p mvi ?_
          refine Wk.p mvi ?_
          refine Wk.dk hu (sp_call (vs := [.int .i64 (k : Int), .int .i64 (i : Int)]) en_kit_mark (fun M w' hh => kit_mark_ct (by omega) (by omega))) ?_
          refine Wk.p eqi ?_
          refine Wk.p noti ?_
          refine Wk.p mvb ?_
          refine Wk.gp q12 mvi ?_
          refine Wk.gp q12 mvs ?_
          refine Wk.gp q12 mvi ?_
          refine Wk.gp q12 (ixn (ix := k) sl_L_L_int (Som.row hLd (by omega))) ?_
          refine Wk.gp q12 (ld (v := .slice x.A x.n x.c) one_L_int (Rd.row hLd hd)) ?_
          refine Wk.gp q12 (lens sl_L_int) ?_
          refine Wk.gp q12 lsi ?_
          refine Wk.gp q12 mvb ?_
          refine Wk.gp q20 mvs ?_
          refine Wk.gp q20 mvi ?_
          refine Wk.gp q20 (ixn (ix := k) sl_L_L_int (Som.row hLd (by omega))) ?_
          refine Wk.gp q20 (ld (v := .slice x.A x.n x.c) one_L_int (Rd.row hLd hd)) ?_
          refine Wk.gp q20 mvi ?_
          refine Wk.gp q20 (ixn1 (ix := i) sl_L_int (Src.som hsl2 (by omega))) ?_
          refine Wk.gp q20 (ld (v := .int .i64 (mkN k i)) one_int (Src.rd hsl2 (mkVs_get hin))) ?_
          refine Wk.gp q20 mvi ?_
          refine Wk.gp q20 mvi ?_
          refine Wk.gdk hu q20 (sp_call (vs := [.int .i64 (k : Int), .int .i64 (i : Int)]) en_kit_mark (fun M w' hh => kit_mark_ct (by omega) (by omega))) ?_
          refine Wk.gp q20 eqi ?_
          refine Wk.gp q20 noti ?_
          refine Wk.gp q12 (pkTb q20) ?_
          refine Wk.p (pkFb q12) ?_
          refine Wk.nil ?_
          rw [needs_exIs hu rfl]
          refine Ol.nil ?_
          exact ⟨⟨rfl, rfl, rfl, rfl, congrArg Value.bool q12, trivial⟩, rfl⟩
        | false =>
          refine Cd.draw mixed 35 (exIs (fun opNo => match opNo with | 9 => some ((.int .i64 (mkN k i))) | _ => none)) (fun _ => []) (by kernel_rfl) exIs_in (fun u hu => ?_)
          refine Wk.p mvs ?_
          refine Wk.p mvi ?_
          refine Wk.p (ixn (ix := k) sl_L_L_int (Som.row hG0 (by omega))) ?_
          refine Wk.p (ld (v := .slice Ag (x.n + 64) cg) one_L_int (Rd.row hG0 hgk1)) ?_
          refine Wk.p mvi ?_
          refine Wk.p (ixn1 (ix := i) sl_L_int (Src.som hsg (by omega))) ?_
          refine Wk.p (ld (v := .int .i64 (mkN k i)) one_int (Src.rd hsg (hyg i hil))) ?_
          refine Wk.p mvi ?_
          refine Wk.p mvi ?_
          refine Wk.dk hu (sp_call (vs := [.int .i64 (k : Int), .int .i64 (i : Int)]) en_kit_mark (fun M w' hh => kit_mark_ct (by omega) (by omega))) ?_
          refine Wk.p eqi ?_
          refine Wk.p noti ?_
          refine Wk.p mvb ?_
          refine Wk.gp q12 mvi ?_
          refine Wk.gp q12 mvs ?_
          refine Wk.gp q12 mvi ?_
          refine Wk.gp q12 (ixn (ix := k) sl_L_L_int (Som.row hLd (by omega))) ?_
          refine Wk.gp q12 (ld (v := .slice x.A x.n x.c) one_L_int (Rd.row hLd hd)) ?_
          refine Wk.gp q12 (lens sl_L_int) ?_
          refine Wk.gp q12 lsi ?_
          refine Wk.gp q12 mvb ?_
          refine Wk.gn q20 ?_
          refine Wk.gn q20 ?_
          refine Wk.gn q20 ?_
          refine Wk.gn q20 ?_
          refine Wk.gn q20 ?_
          refine Wk.gn q20 ?_
          refine Wk.gn q20 ?_
          refine Wk.gn q20 ?_
          refine Wk.gn q20 ?_
          refine Wk.gn q20 ?_
          refine Wk.gn q20 ?_
          refine Wk.gn q20 ?_
          refine Wk.gp q12 (pkFb q20) ?_
          refine Wk.p (pkFb q12) ?_
          refine Wk.nil ?_
          rw [needs_exIs hu rfl]
          refine Ol.nil ?_
          exact ⟨⟨rfl, rfl, rfl, rfl, rfl, trivial⟩, rfl⟩
      rintro σ' _ ⟨hs', rfl⟩
      refine Cd.has hs' ?_
      clear hs'
      refine Cd.cond rfl (fun h => by cases h) (fun _ => ?_)
      refine Cd.skip ?_
      refine Cd.region ?_
      refine Ol.p mvi ?_
      refine Ol.p addi ?_
      refine Ol.p asi ?_
      refine Ol.nil ?_
      exact ⟨x.n + 64 - (i + 1), by omega, i + 1, rfl, by omega, ⟨rfl, rfl, rfl, rfl, trivial⟩, rfl⟩
    refine Cd.exit (id := 10) ?_
    refine Cd.region ?_
    refine Ol.p mvi ?_
    refine Ol.p addi ?_
    refine Ol.p asi ?_
    refine Ol.nil ?_
    exact ⟨N - (k + 1), by omega, k + 1, rfl, by omega, ⟨rfl, rfl, rfl, trivial⟩, rfl⟩
  have hke : k = N := by
    have h : decide ((k : Int) < (N : Int)) = false := h
    have := of_decide_eq_false h
    omega
  obtain rfl : N = k := hke.symm
  refine Cd.exit (id := 8) ?_
  clear hrd hG0 hLd
  subst hLL
  obtain ⟨d4, hd4⟩ : ∃ d4 : Nat → Nat, d4 = fun q => (it q).n := ⟨_, rfl⟩
  refine Cd.seq ?_
  refine Cd.seq ?_
  refine Cd.region ?_
  refine Ol.p asi ?_
  refine Ol.nil ?_
  refine Cd.block ?_
  refine Cd.loop (fun m σ L => ∃ (k : Nat) (hs : List Value) (E : List (List Res)), m = N - k ∧ k ≤ N ∧ Has σ [(0, .slice AL N cL), (5, .slice (some ⟨gm, 0, none⟩) N N), (11, .int .i64 k)] ∧ hs.length = N ∧ AllL w0 B it d4 k E hs ∧ row (.slice (some ⟨gm, 0, none⟩) N N) 22 1 N hs :: Hd :: ((D.drop k).flatten ++ E.flatten) = L) (n := N) ⟨0, hs, [], rfl, Nat.zero_le _, ⟨rfl, rfl, rfl, trivial⟩, hsl, ⟨rfl, fun q hq => by omega⟩, by rw [List.flatten_nil, List.append_nil, List.drop_zero]⟩ ?_
  rintro _ σ L ⟨k, hs2, E, rfl, hk, hs', hsl2, hA2, rfl⟩
  refine Cd.has hs' ?_
  clear hs'
  refine Cd.seq ?_
  refine Cd.seq ?_
  refine Cd.region ?_
  refine Ol.p mvi ?_
  refine Ol.p mvs ?_
  refine Ol.p (lens sl_L_L_int) ?_
  refine Ol.p lsi ?_
  refine Ol.nil ?_
  refine Cd.cond rfl (fun h => ?_) (fun h => ?_)
  · have hlt : k < N := by
      have h : decide ((k : Int) < (N : Int)) = true := h
      have := of_decide_eq_true h
      omega
    obtain ⟨x, hx⟩ : ∃ x, x = it k := ⟨_, rfl⟩
    have hnk := hns k hlt
    obtain ⟨R, hR, hO⟩ := hA.own hlt
    rw [← hx] at hnk hO
    have hd : (hdL N it)[k * 1]? = some (.slice x.A x.n x.c) := by rw [Nat.mul_one, hdL_get hlt, hx]
    refine Cd.skip ?_
    refine Cd.seq ?_
    refine Cd.block ?_
    refine Cd.seq ?_
    refine Cd.region ?_
    refine Ol.x (mks (n := 64) (c := 64) sl_L_int zr_int) ?_
    rintro _ _ ⟨gq, rfl, rfl⟩
    refine Ol.p ass ?_
    refine Ol.nil ?_
    obtain ⟨M0, hM0⟩ : ∃ M0, M0 = (madeCells (Value.int .i64 0).cells (64 * 1)).toList.take (64 * 1) := ⟨_, rfl⟩
    rw [← hM0]
    have hM1 : ∀ u ∈ M0, u.oneCell' = true := by
      rw [hM0]
      exact List.all_eq_true.1 (by kernel_rfl)
    have hM2 : M0.length = 64 := by rw [hM0]; kernel_rfl
    clear hM0
    obtain ⟨LL, hLL⟩ : ∃ LL, LL = row (.slice (some ⟨gm, 0, none⟩) N N) 22 1 N hs2 :: Hd :: ((D.drop k).flatten ++ E.flatten) := ⟨_, rfl⟩
    rw [← hLL]
    refine Cd.seq ?_
    refine Cd.seq ?_
    refine Cd.region ?_
    refine Ol.p asi ?_
    refine Ol.nil ?_
    refine Cd.block ?_
    refine Cd.loop (fun m σ L => ∃ (i : Nat) (ys : List Value), m = 64 - i ∧ i ≤ 64 ∧ Has σ [(0, .slice AL N cL), (5, .slice (some ⟨gm, 0, none⟩) N N), (11, .int .i64 k), (12, .slice (some ⟨gq, 0, none⟩) 64 64), (13, .int .i64 i)] ∧ ys.length = 64 ∧ (∀ u ∈ ys, u.oneCell' = true) ∧ row (.slice (some ⟨gq, 0, none⟩) 64 64) 3 1 64 ys :: LL = L) (n := 64) ⟨0, M0, rfl, Nat.zero_le _, ⟨rfl, rfl, rfl, rfl, rfl, trivial⟩, hM2, hM1, rfl⟩ ?_
    rintro _ σ L ⟨i, ys, rfl, hi, hs', hyl, hyo, rfl⟩
    refine Cd.has hs' ?_
    clear hs'
    refine Cd.seq ?_
    refine Cd.seq ?_
    refine Cd.region ?_
    refine Ol.p mvi ?_
    refine Ol.p lsi ?_
    refine Ol.nil ?_
    refine Cd.cond rfl (fun h => ?_) (fun h => ?_)
    · have hil : i < 64 := by
        have h : decide ((i : Int) < 64) = true := h
        have := of_decide_eq_true h
        omega
      have hmk2 : ∀ w', Ct Tryz.prog 49 #[.int .i64 ((k : Int) + (N : Int)), .int .i64 (i : Int)] w' (Is (mkV (k + N) i)) := fun w' => by
        rw [show (k : Int) + (N : Int) = ((k + N : Nat) : Int) by omega]
        exact kit_mark_ct (by omega) (by omega)
      refine Cd.skip ?_
      refine Cd.seq ?_
      refine Cd.block ?_
      refine Cd.region ?_
      refine Ol.p mvs ?_
      refine Ol.p mvi ?_
      refine Ol.p mvi ?_
      refine Ol.p mvs ?_
      refine Ol.p (lens sl_L_L_int) ?_
      refine Ol.p addi ?_
      refine Ol.p mvi ?_
      refine Ol.s (cl (v := mkV (k + N) i) (vs := [.int .i64 ((k : Int) + (N : Int)), .int .i64 (i : Int)]) en_kit_mark (fun M w' hh => hmk2 w')) ?_
      refine Ol.p (ixn1 (ix := i) sl_L_int (Som.row (i := 0) rfl (by omega))) ?_
      refine Ol.s (str (i := 0) (k := i) (v := mkV (k + N) i) sz_int rfl rfl rfl (by omega) rfl) ?_
      refine Ol.nil ?_
      refine Cd.region ?_
      refine Ol.p mvi ?_
      refine Ol.p addi ?_
      refine Ol.p asi ?_
      refine Ol.nil ?_
      exact ⟨64 - (i + 1), by omega, i + 1, ys.set i (mkV (k + N) i), rfl, by omega, ⟨rfl, rfl, rfl, rfl, rfl, trivial⟩, by simp [hyl], one_set hyo rfl, rfl⟩
    refine Cd.exit (id := 14) ?_
    rw [hLL, drop_of hR, List.flatten_cons]
    rcases hO with ⟨hA0, hn0, hc0⟩ | ⟨g, o, cs, Z, hxA, rfl, hle, hcs, hmv⟩
    · have hd0 : (hdL N it)[k * 1]? = some (.slice none 0 0) := by rw [hd, hA0, hn0, hc0]
      refine Cd.nr 3 1 ?_
      refine Cd.keep keep_S4b ?_
      refine Cd.region ?_
      refine Ol.p mvs ?_
      refine Ol.p mvi ?_
      refine Ol.p mvs ?_
      refine Ol.p mvi ?_
      refine Ol.p (ixn (ix := k) sl_L_L_int (Som.row (i := 3) (congrArg some hHd) (by omega))) ?_
      refine Ol.p (ld (v := .slice none 0 0) one_L_int (Rd.row (i := 3) (congrArg some hHd) hd0)) ?_
      refine Ol.p mvs ?_
      refine Ol.x (apn (i := 1) (n := 0) (m := 64) (xs := []) sl_L_int zr_int rfl (by decide) rfl (Src.row (i := 0) rfl (by omega)) hyo (by decide) (by decide)) ?_
      rintro v' L' hK; obtain ⟨R', hkp, hgr⟩ := grown_B (w0 := w0) (B := B) (k := k) (x := x) hyl hA0 hn0 hc0 hK; obtain ⟨A9, c9, rfl⟩ := hgr.val; refine Ol.keep hkp ?_
      refine Ol.p (ixn1 (ix := k) sl_L_L_int (Som.row (i := 0) rfl (by omega))) ?_
      refine Ol.s (str (i := 0) (k := k) (v := .slice A9 (x.n + 64) c9) sz_L_int rfl rfl rfl (by omega) rfl) ?_
      refine Ol.nil ?_
      refine Cd.keep keep_P4 ?_
      refine Cd.region ?_
      refine Ol.p mvi ?_
      refine Ol.p addi ?_
      refine Ol.p asi ?_
      refine Ol.nil ?_
      exact ⟨N - (k + 1), by omega, k + 1, hs2.set k _, E ++ [R'], rfl, by omega, ⟨rfl, rfl, rfl, trivial⟩, by simp [hsl2], hA2.add (by omega) (by rw [hd4]; show GrownL w0 B k (it k).n (it k) _ _; rw [← hx]; exact hgr), rfl⟩
    · have hd0 : (hdL N it)[k * 1]? = some (.slice (some ⟨g, o, none⟩) x.n x.c) := by rw [hd, hxA]
      refine Cd.keep keep_S4a ?_
      refine Cd.region ?_
      refine Ol.p mvs ?_
      refine Ol.p mvi ?_
      refine Ol.p mvs ?_
      refine Ol.p mvi ?_
      refine Ol.p (ixn (ix := k) sl_L_L_int (Som.row (i := 3) (congrArg some hHd) (by omega))) ?_
      refine Ol.p (ld (v := .slice (some ⟨g, o, none⟩) x.n x.c) one_L_int (Rd.row (i := 3) (congrArg some hHd) hd0)) ?_
      refine Ol.p mvs ?_
      refine Ol.x (apk (i := 1) (n := x.n) (m := 64) (c := x.c) (xs := mkVs k x.n) sl_L_int zr_int rfl rfl hcs hle (mkVs_len _ _) (fun j u hu => by obtain ⟨hj, rfl⟩ := mkVs_of hu; exact hmv j hj) (by decide) (Src.row (i := 0) rfl (by omega)) hyo (by unfold maxLen; omega) (by omega)) ?_
      rintro v' L' hK; obtain ⟨R', hkp, hgr⟩ := grown_A (w0 := w0) (B := B) (k := k) (x := x) hyl hxA hle hcs hmv hK; obtain ⟨A9, c9, rfl⟩ := hgr.val; refine Ol.keep hkp ?_
      refine Ol.p (ixn1 (ix := k) sl_L_L_int (Som.row (i := 0) rfl (by omega))) ?_
      refine Ol.s (str (i := 0) (k := k) (v := .slice A9 (x.n + 64) c9) sz_L_int rfl rfl rfl (by omega) rfl) ?_
      refine Ol.nil ?_
      refine Cd.keep keep_P4 ?_
      refine Cd.region ?_
      refine Ol.p mvi ?_
      refine Ol.p addi ?_
      refine Ol.p asi ?_
      refine Ol.nil ?_
      exact ⟨N - (k + 1), by omega, k + 1, hs2.set k _, E ++ [R'], rfl, by omega, ⟨rfl, rfl, rfl, trivial⟩, by simp [hsl2], hA2.add (by omega) (by rw [hd4]; show GrownL w0 B k (it k).n (it k) _ _; rw [← hx]; exact hgr), rfl⟩
  have hke : k = N := by
    have h : decide ((k : Int) < (N : Int)) = false := h
    have := of_decide_eq_false h
    omega
  obtain rfl : N = k := hke.symm
  refine Cd.exit (id := 12) ?_
  have hDe : D.drop N = [] := List.drop_eq_nil_of_le (by have := hA.1; omega)
  rw [hDe, List.flatten_nil, List.nil_append]
  obtain ⟨LL, hLL⟩ : ∃ LL, LL = row (.slice (some ⟨gm, 0, none⟩) N N) 22 1 N hs2 :: Hd :: E.flatten := ⟨_, rfl⟩
  have hG0 : LL[0]? = some (row (.slice (some ⟨gm, 0, none⟩) N N) 22 1 N hs2) := by rw [hLL]; rfl
  have hrd : ∀ q, q < N → Src w0 B LL (it q).A (it q).n 1 (mkVs q (it q).n) ∧ ∃ (A : Option Addr) (c : Nat) (ys : List Value), hs2[q]? = some (.slice A ((it q).n + 64) c) ∧ Src w0 B LL A ((it q).n + 64) 1 ys ∧ ∀ j : Nat, j < (it q).n → ys[j]? = some (mkV q j) := fun q hq => by
    have := hA2.reads (L := [row (.slice (some ⟨gm, 0, none⟩) N N) 22 1 N hs2, Hd]) hq
    rw [hd4] at this
    rw [hLL]
    exact this
  have hLd : LL[1]? = some (row (.slice AL N cL) 22 1 N (hdL N it)) := by rw [hLL, hHd]; rfl
  rw [← hLL]
  refine Cd.seq ?_
  refine Cd.seq ?_
  refine Cd.region ?_
  refine Ol.p asi ?_
  refine Ol.nil ?_
  refine Cd.block ?_
  refine Cd.loop (fun m σ L => ∃ k : Nat, m = N - k ∧ k ≤ N ∧ Has σ [(0, .slice AL N cL), (5, .slice (some ⟨gm, 0, none⟩) N N), (14, .int .i64 k)] ∧ LL = L) (n := N) ⟨0, rfl, Nat.zero_le _, ⟨rfl, rfl, rfl, trivial⟩, rfl⟩ ?_
  rintro _ σ _ ⟨k, rfl, hk, hs', rfl⟩
  refine Cd.has hs' ?_
  clear hs'
  refine Cd.seq ?_
  refine Cd.seq ?_
  refine Cd.region ?_
  refine Ol.p mvi ?_
  refine Ol.p mvs ?_
  refine Ol.p (lens sl_L_L_int) ?_
  refine Ol.p lsi ?_
  refine Ol.nil ?_
  refine Cd.cond rfl (fun h => ?_) (fun h => ?_)
  · have hlt : k < N := by
      have h : decide ((k : Int) < (N : Int)) = true := h
      have := of_decide_eq_true h
      omega
    obtain ⟨hsl3, Ag, cg, ys, hgk, hsg, hyg⟩ := hrd k hlt
    obtain ⟨x, hx⟩ : ∃ x, x = it k := ⟨_, rfl⟩
    have hnk := hns k hlt
    have hd : (hdL N it)[k * 1]? = some (.slice x.A x.n x.c) := by rw [Nat.mul_one, hdL_get hlt, hx]
    rw [← hx] at hnk hsl3 hgk hsg hyg
    have hgk1 : hs2[k * 1]? = some (.slice Ag (x.n + 64) cg) := by rw [Nat.mul_one]; exact hgk
    refine Cd.skip ?_
    refine Cd.seq ?_
    refine Cd.block ?_
    refine Cd.seq ?_
    refine Cd.region ?_
    refine Ol.p asi ?_
    refine Ol.nil ?_
    refine Cd.block ?_
    refine Cd.loop (fun m σ L => ∃ i : Nat, m = x.n - i ∧ i ≤ x.n ∧ Has σ [(0, .slice AL N cL), (5, .slice (some ⟨gm, 0, none⟩) N N), (14, .int .i64 k), (15, .int .i64 i)] ∧ LL = L) (n := x.n) ⟨0, rfl, Nat.zero_le _, ⟨rfl, rfl, rfl, rfl, trivial⟩, rfl⟩ ?_
    rintro _ σ _ ⟨i, rfl, hi, hs', rfl⟩
    refine Cd.has hs' ?_
    clear hs'
    refine Cd.seq ?_
    refine Cd.seq ?_
    refine Cd.region ?_
    refine Ol.p mvi ?_
    refine Ol.p mvs ?_
    refine Ol.p mvi ?_
    refine Ol.p (ixn (ix := k) sl_L_L_int (Som.row hLd (by omega))) ?_
    refine Ol.p (ld (v := .slice x.A x.n x.c) one_L_int (Rd.row hLd hd)) ?_
    refine Ol.p (lens sl_L_int) ?_
    refine Ol.p lsi ?_
    refine Ol.nil ?_
    refine Cd.cond rfl (fun h => ?_) (fun h => ?_)
    · have hil : i < x.n := by
        have h : decide ((i : Int) < (x.n : Int)) = true := h
        have := of_decide_eq_true h
        omega
      have q12 : (!decide (mkN k i = mkN k i)) = false := by simp
      refine Cd.skip ?_
      refine Cd.seq ?_
      refine Cd.block ?_
      refine Cd.mid (fun σ' L' => Has σ' [(0, .slice AL N cL), (5, .slice (some ⟨gm, 0, none⟩) N N), (14, .int .i64 k), (15, .int .i64 i), (192, .bool false)] ∧ LL = L') ?_ ?_
      · skip
        refine Cd.draw mixed 26 (exIs (fun opNo => match opNo with | 9 => some ((.int .i64 (mkN k i))) | 22 => some ((.int .i64 (mkN k i))) | _ => none)) (fun _ => []) (by kernel_rfl) exIs_in (fun u hu => ?_)
        refine Wk.p mvs ?_
        refine Wk.p mvi ?_
        refine Wk.p (ixn (ix := k) sl_L_L_int (Som.row hLd (by omega))) ?_
        refine Wk.p (ld (v := .slice x.A x.n x.c) one_L_int (Rd.row hLd hd)) ?_
        refine Wk.p mvi ?_
        refine Wk.p (ixn1 (ix := i) sl_L_int (Src.som hsl3 (by omega))) ?_
        refine Wk.p (ld (v := .int .i64 (mkN k i)) one_int (Src.rd hsl3 (mkVs_get hil))) ?_
        refine Wk.p mvi ?_
        refine Wk.p mvi ?_
        refine Wk.dk hu (sp_call (vs := [.int .i64 (k : Int), .int .i64 (i : Int)]) en_kit_mark (fun M w' hh => kit_mark_ct (by omega) (by omega))) ?_
        refine Wk.p eqi ?_
        refine Wk.p noti ?_
        refine Wk.p mvb ?_
        refine Wk.gp q12 mvs ?_
        refine Wk.gp q12 mvi ?_
        refine Wk.gp q12 (ixn (ix := k) sl_L_L_int (Som.row hG0 (by omega))) ?_
        refine Wk.gp q12 (ld (v := .slice Ag (x.n + 64) cg) one_L_int (Rd.row hG0 hgk1)) ?_
        refine Wk.gp q12 mvi ?_
        refine Wk.gp q12 (ixn1 (ix := i) sl_L_int (Src.som hsg (by omega))) ?_
        refine Wk.gp q12 (ld (v := .int .i64 (mkN k i)) one_int (Src.rd hsg (hyg i hil))) ?_
        refine Wk.gp q12 mvi ?_
        refine Wk.gp q12 mvi ?_
        refine Wk.gdk hu q12 (sp_call (vs := [.int .i64 (k : Int), .int .i64 (i : Int)]) en_kit_mark (fun M w' hh => kit_mark_ct (by omega) (by omega))) ?_
        refine Wk.gp q12 eqi ?_
        refine Wk.gp q12 noti ?_
        refine Wk.p (pkFb q12) ?_
        refine Wk.nil ?_
        rw [needs_exIs hu rfl]
        refine Ol.nil ?_
        exact ⟨⟨rfl, rfl, rfl, rfl, congrArg Value.bool q12, trivial⟩, rfl⟩
      rintro σ' _ ⟨hs', rfl⟩
      refine Cd.has hs' ?_
      clear hs'
      refine Cd.cond rfl (fun h => by cases h) (fun _ => ?_)
      refine Cd.skip ?_
      refine Cd.region ?_
      refine Ol.p mvi ?_
      refine Ol.p addi ?_
      refine Ol.p asi ?_
      refine Ol.nil ?_
      exact ⟨x.n - (i + 1), by omega, i + 1, rfl, by omega, ⟨rfl, rfl, rfl, rfl, trivial⟩, rfl⟩
    refine Cd.exit (id := 18) ?_
    refine Cd.region ?_
    refine Ol.p mvi ?_
    refine Ol.p addi ?_
    refine Ol.p asi ?_
    refine Ol.nil ?_
    exact ⟨N - (k + 1), by omega, k + 1, rfl, by omega, ⟨rfl, rfl, rfl, trivial⟩, rfl⟩
  refine Cd.exit (id := 16) ?_
  refine Cd.seq ?_
  refine Cd.region ?_
  refine Ol.p asb ?_
  refine Ol.nil ?_
  exact Cd.ret ⟨.bool true, ret1 rfl rfl, [], Keep.nil, rfl, rfl⟩
end
end Go.Proofs.YtkefmjhagmacfaaGreatDoor

