/- Dominators told by what is reached without a block; a test of them: plain laws. -/
import Derived.Test.YtbcnejobnmljlaaDomF
namespace Go.Proofs.Ytbcnejobnmljlaa
set_option linter.unusedVariables false
set_option maxRecDepth 10000
open Go Go.RowKit

/-- What is reached, by blocks that are open alone. -/
theorem mem_reach_op {ts : List Tm} {op s : Nat} (h : Sub s op) (hop : Sm op) (K : Nat → Prop) (h0 : ∀ a, s.testBit a = true → K a) (hs : ∀ b c : Nat, K b → (c : Int) ∈ toAt ts b → op.testBit c = true → K c)
    (hK : ∀ (Q : Nat → Prop), (∀ a, s.testBit a = true → Q a) → (∀ b c : Nat, Q b → (c : Int) ∈ toAt ts b → op.testBit c = true → Q c) → ∀ i, K i → Q i) (i : Nat) : (reachS ts op s).testBit i = true ↔ K i := by
  constructor
  · intro hi
    have : ∀ k i, (iterF (stepS ts op) k s).testBit i = true → K i := by
      intro k
      induction k with
      | zero => intro i hi; exact h0 i hi
      | succ k ih =>
        intro i hi
        have hi : (stepS ts op (iterF (stepS ts op) k s)).testBit i = true := hi
        rw [mem_step ((iterF_sub h k).sm hop)] at hi
        rcases hi.2 with h1 | ⟨_, b, hb, hc⟩
        · exact ih i h1
        · exact hs b i (ih b hb) hc hi.1
    exact this _ i hi
  · refine hK (fun i => (reachS ts op s).testBit i = true) (fun a ha => reach_sub_ h a ha) (fun b c hb hc hopc => ?_) i
    have hsm : Sm (reachS ts op s) := Sub.sm (iterF_sub (ts := ts) h 1025) hop
    show (reachS ts op s).testBit c = true
    rw [← reach_fix h hop, mem_step hsm]
    refine ⟨hopc, .inr ⟨?_, b, hb, hc⟩⟩
    rcases Nat.lt_or_ge c 1024 with hl | hl
    · exact hl
    · rw [hop c hl] at hopc; cases hopc
/-- What Reached tells of block 0, one block shut: where a way goes that avoids it. -/
theorem mem_left {ts : List Tm} (hc : closed ts = true) {a : Nat} (ha : a < ts.length) (i : Nat) : i ∈ reachedF ts [0] [(a : Int)] ↔ Av (gra ts hc) a i := by
  obtain ⟨hn0, hl⟩ := closed_le hc
  have hoka : okN (a : Int) = true := by rw [okN_iff]; omega
  have hbit : ∀ i : Nat, (lessL (allS ts.length) [(a : Int)]).testBit i = true ↔ i < ts.length ∧ i ≠ a := fun i => by
    rw [testBit_lessL, testBit_allS _ _ (by omega)]
    simp only [Bool.and_eq_true, decide_eq_true_eq, Bool.not_eq_true', Bool.and_eq_false_iff, List.contains_eq_mem, decide_eq_false_iff_not, List.mem_cons, List.not_mem_nil, or_false]
    constructor
    · rintro ⟨h1, h2⟩
      refine ⟨h1, ?_⟩
      rintro rfl
      rcases h2 with h2 | h2
      · rw [hoka] at h2; cases h2
      · exact h2 rfl
    · rintro ⟨h1, h2⟩
      exact ⟨h1, .inr (by omega)⟩
  have hs0 : ∀ i : Nat, (lessL (allS ts.length) [(a : Int)] &&& ofL [0]).testBit i = true ↔ i = 0 ∧ a ≠ 0 := fun i => by
    rw [Nat.testBit_and, Bool.and_eq_true, hbit, testBit_ofL]
    simp only [Bool.and_eq_true, List.contains_eq_mem, decide_eq_true_eq, List.mem_cons, List.not_mem_nil, or_false]
    constructor
    · rintro ⟨⟨_, h2⟩, _, h4⟩
      have : i = 0 := by omega
      subst this
      exact ⟨rfl, fun e => h2 e.symm⟩
    · rintro ⟨rfl, h2⟩
      exact ⟨⟨hn0, fun e => h2 e.symm⟩, by decide, rfl⟩
  have hsub : Sub (lessL (allS ts.length) [(a : Int)] &&& ofL [0]) (lessL (allS ts.length) [(a : Int)]) := fun i hi => by
    rw [Nat.testBit_and, Bool.and_eq_true] at hi
    exact hi.1
  have hop : Sm (lessL (allS ts.length) [(a : Int)]) := fun i hi => by
    cases hb : (lessL (allS ts.length) [(a : Int)]).testBit i with
    | false => rfl
    | true => have := (hbit i).1 hb; omega
  have key := mem_reach_op (ts := ts) hsub hop (Av (gra ts hc) a) (fun x hx => by
      obtain ⟨rfl, h2⟩ := (hs0 x).1 hx
      exact .zero h2) (fun b c hb he ho => .step hb he ((hbit c).1 ho).2) (fun Q h0 hs i hi => by
      induction hi with
      | zero h2 => exact h0 0 ((hs0 0).2 ⟨rfl, h2⟩)
      | step hv he hne ih => exact hs _ _ ih he ((hbit _).2 ⟨by have := (toAt_lt hc he).2.1; omega, hne⟩)) i
  unfold reachedF
  rw [hc, cond_true, mem_listS, key]
  constructor
  · exact fun h => h.2
  · intro h
    refine ⟨?_, h⟩
    have hm : i ∈ orderF ts := h.reached
    have := order_lt hc hm
    omega
theorem dom_left {ts : List Tm} (hc : closed ts = true) {a b : Nat} (ha : a < ts.length) : Dom (gra ts hc) a b ↔ b ∈ orderF ts ∧ b ∉ reachedF ts [0] [(a : Int)] := by
  rw [mem_left hc ha]
  exact Iff.rfl
theorem dom_lt {ts : List Tm} (hc : closed ts = true) {a b : Nat} (h : Dom (gra ts hc) a b) : a < ts.length := by
  refine Classical.byContradiction fun hn => ?_
  have hpos := (closed_le hc).1
  refine h.2 ?_
  have hr := (order_mem hc b).1 h.1
  induction hr with
  | refl => exact .zero (by omega)
  | step hr he ih =>
    have hb : (gra ts hc).R _ := (order_mem hc _).2 hr
    exact .step (ih ⟨hb, fun hv => h.2 (.step hv he (by have := (toAt_lt hc he).2.1; omega))⟩) he (by have := (toAt_lt hc he).2.1; omega)
/-- Does a way of so many steps avoid d? -/
def avB (ts : List Tm) (d : Nat) : Nat → Nat → Bool
  | 0, x => decide (x = 0) && !decide (d = 0)
  | k + 1, x => avB ts d k x || (!decide (x = d) && (preF ts x).any fun a => avB ts d k a)
theorem avB_sound {ts : List Tm} (hc : closed ts = true) {d : Nat} : ∀ (k x : Nat), avB ts d k x = true → Av (gra ts hc) d x
  | 0, x, h => by
    simp only [avB, Bool.and_eq_true, decide_eq_true_eq, Bool.not_eq_true', decide_eq_false_iff_not] at h
    rw [h.1]; exact .zero h.2
  | k + 1, x, h => by
    simp only [avB, Bool.or_eq_true, Bool.and_eq_true, List.any_eq_true, Bool.not_eq_true', decide_eq_false_iff_not] at h
    rcases h with h | ⟨h1, a, ha, h2⟩
    · exact avB_sound hc k x h
    · exact .step (avB_sound hc k a h2) (mem_preF.1 ha) h1
/-- A test that some numbers are the immediate dominators. -/
def checkDom (ts : List Tm) (ul : List Int) : Bool :=
  decide (ul.length = ts.length) && decide (asU ul 0 = -1) &&
  ((List.range ts.length).all fun x => bif decide (asU ul x < 0) then decide (asU ul x = -1) && (decide (x = 0) || !(orderF ts).contains x) else
    (orderF ts).contains x && (orderF ts).contains (asU ul x).toNat && decide ((orderF ts).idxOf (asU ul x).toNat < (orderF ts).idxOf x) && (decide ((asU ul x).toNat = 0) || decide (0 ≤ asU ul (asU ul x).toNat))) &&
  ((orderF ts).all fun x => (List.range ts.length).all fun d => (chF (asU ul) (ts.length + 1) x).contains d || avB ts d ts.length x) &&
  ((orderF ts).all fun x => (preF ts x).all fun a => !(orderF ts).contains a || (chF (asU ul) (ts.length + 1) x).all fun d => decide (d = x) || (chF (asU ul) (ts.length + 1) a).contains d)
theorem DomU.of_check {ts : List Tm} {ul : List Int} (h : checkDom ts ul = true) : DomU ts ul := by
  unfold checkDom at h
  simp only [Bool.and_eq_true, decide_eq_true_eq, List.all_eq_true, List.mem_range] at h
  obtain ⟨⟨⟨⟨h1, h2⟩, h3⟩, h4⟩, h5⟩ := h
  refine ⟨h1, fun hc => ?_⟩
  have hout : ∀ x, ts.length ≤ x → asU ul x = -1 := fun x hx => by
    unfold asU
    rw [List.getD_eq_getElem?_getD, List.getElem?_eq_none (by omega)]
    rfl
  have hin : ∀ x, 0 ≤ asU ul x → x < ts.length ∧ x ∈ orderF ts ∧ (asU ul x).toNat ∈ orderF ts ∧ (orderF ts).idxOf (asU ul x).toNat < (orderF ts).idxOf x ∧ ((asU ul x).toNat = 0 ∨ 0 ≤ asU ul (asU ul x).toNat) := fun x hx => by
    have hl : x < ts.length := by
      rcases Nat.lt_or_ge x ts.length with h | h
      · exact h
      · rw [hout x h] at hx; omega
    have := h3 x hl
    have hd : decide (asU ul x < 0) = false := by simp; omega
    rw [hd, cond_false] at this
    simp only [Bool.and_eq_true, List.contains_eq_mem, decide_eq_true_eq, Bool.or_eq_true] at this
    exact ⟨hl, this.1.1.1, this.1.1.2, this.1.2, this.2⟩
  have hneg : ∀ x, asU ul x < 0 → asU ul x = -1 ∧ (x = 0 ∨ x ∉ orderF ts) := fun x hx => by
    rcases Nat.lt_or_ge x ts.length with hl | hl
    · have := h3 x hl
      have hd : decide (asU ul x < 0) = true := by simpa using hx
      rw [hd, cond_true] at this
      simp only [Bool.and_eq_true, List.contains_eq_mem, decide_eq_true_eq, Bool.or_eq_true, Bool.not_eq_true', decide_eq_false_iff_not] at this
      exact this
    · exact ⟨hout x hl, .inr fun hm => by have := order_lt hc hm; omega⟩
  have htr : Tr (gra ts hc) (asU ul) := ⟨h2, fun b hb => by
    obtain ⟨_, h5, h6, h7, h8⟩ := hin b hb
    exact ⟨h5, h6, h7, h8⟩⟩
  have hpl : ∀ x, x ∈ orderF ts → (gra ts hc).pl x < ts.length + 1 := fun x hx => by
    have h5 : (orderF ts).idxOf x < (orderF ts).length := List.idxOf_lt_length_of_mem hx
    have h6 := order_len_le hc
    show (orderF ts).idxOf x < _
    omega
  refine ⟨htr, fun c hcR => ?_, fun d x hx => ?_, fun c hcR => ?_⟩
  · rcases Int.lt_or_le (asU ul c) 0 with hu | hu
    · exact .inl ((hneg c hu).2.resolve_right fun hn => hn hcR)
    · exact .inr hu
  · constructor
    · intro hd
      refine ⟨hx, fun hv => ?_⟩
      have key : ∀ x, Av (gra ts hc) d x → ¬ Upw (asU ul) d x := by
        intro x hv
        induction hv with
        | zero h0 =>
          intro ha
          rcases ha.inv with e | ⟨e, _⟩
          · exact h0 e
          · omega
        | @step a x hv he hne ih =>
          intro ha
          have hra : a ∈ orderF ts := hv.reached
          have hrx : x ∈ orderF ts := order_edge' hc hra he
          have h6 := h5 x hrx a (mem_preF.2 he)
          simp only [Bool.or_eq_true, Bool.not_eq_true', List.contains_eq_mem, decide_eq_false_iff_not, List.all_eq_true, decide_eq_true_eq] at h6
          rcases h6 with h6 | h6
          · exact h6 hra
          · rcases h6 d ((mem_chF htr _ _ _ (hpl x hrx)).2 ha) with h7 | h7
            · exact hne h7.symm
            · exact ih ((mem_chF htr _ _ _ (hpl a hra)).1 h7)
      exact key x hv hd
    · intro hd
      have hdl := dom_lt hc hd
      have := h4 x hx d hdl
      simp only [Bool.or_eq_true, List.contains_eq_mem, decide_eq_true_eq] at this
      rcases this with h7 | h7
      · exact (mem_chF htr _ _ _ (hpl x hx)).1 h7
      · exact absurd (avB_sound hc _ _ h7) hd.2
  · rcases Int.lt_or_le (asU ul c) 0 with hu | hu
    · exact (hneg c hu).1
    · exact absurd (hin c hu).2.1 hcR
end Go.Proofs.Ytbcnejobnmljlaa
