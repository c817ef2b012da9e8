/- Reaching and the order of blocks: plain laws. -/
import Derived.Test.YtbcnejobnmljlaaReach
import Derived.Test.YtbcnejobnmljlaaDfs
namespace Go.Proofs.Ytbcnejobnmljlaa
set_option linter.unusedVariables false
set_option maxRecDepth 10000
open Go Go.RowKit

/-- A way from a to b. -/
inductive Rc (ts : List Tm) (a : Nat) : Nat → Prop
  | refl : Rc ts a a
  | step {b c : Nat} : Rc ts a b → (c : Int) ∈ toAt ts b → Rc ts a c
theorem Rc.trans {ts : List Tm} {a b c : Nat} (h : Rc ts a b) (k : Rc ts b c) : Rc ts a c := by
  induction k with
  | refl => exact h
  | step _ h2 ih => exact .step ih h2
theorem Rc.one {ts : List Tm} {a b : Nat} (h : (b : Int) ∈ toAt ts a) : Rc ts a b := .step .refl h
theorem iterF_sub {ts : List Tm} {op s : Nat} (h : Sub s op) : ∀ k, Sub (iterF (stepS ts op) k s) op
  | 0 => h
  | k + 1 => step_sub _ _ _
theorem reach_fix {ts : List Tm} {op s : Nat} (h : Sub s op) (hop : Sm op) : stepS ts op (reachS ts op s) = reachS ts op s := by
  have key : ∀ k, (∃ j, j ≤ k ∧ stepS ts op (iterF (stepS ts op) j s) = iterF (stepS ts op) j s) ∨ k ≤ (listS (iterF (stepS ts op) k s)).length := by
    intro k
    induction k with
    | zero => exact .inr (Nat.zero_le _)
    | succ k ih =>
      rcases ih with ⟨j, hj, hf⟩ | ih
      · exact .inl ⟨j, by omega, hf⟩
      · by_cases he : stepS ts op (iterF (stepS ts op) k s) = iterF (stepS ts op) k s
        · exact .inl ⟨k, by omega, he⟩
        · right
          have hs := sub_step (ts := ts) (iterF_sub (ts := ts) h k)
          have := listS_lt hs ((step_sub ts op _).sm hop) (fun e => he e.symm)
          show k + 1 ≤ (listS (stepS ts op (iterF (stepS ts op) k s))).length
          omega
  unfold reachS
  rcases key 1025 with ⟨j, hj, hf⟩ | hl
  · rw [iter_fix hf 1025 hj]; exact hf
  · have := listS_len_le (iterF (stepS ts op) 1025 s)
    omega
theorem reach_sub_ {ts : List Tm} {op s : Nat} (h : Sub s op) : Sub s (reachS ts op s) := by
  unfold reachS
  have : ∀ k, Sub s (iterF (stepS ts op) k s) := by
    intro k
    induction k with
    | zero => exact Sub.refl s
    | succ k ih => exact ih.trans (sub_step (iterF_sub h k))
  exact this _
/-- What is reached: what a way goes to. -/
theorem mem_reach {ts : List Tm} {op s : Nat} (h : Sub s op) (hop : Sm op) (hall : ∀ b c : Nat, (c : Int) ∈ toAt ts b → op.testBit c = true) (i : Nat) : (reachS ts op s).testBit i = true ↔ ∃ a, s.testBit a = true ∧ Rc ts a i := by
  constructor
  · intro hi
    have : ∀ k i, (iterF (stepS ts op) k s).testBit i = true → ∃ a, s.testBit a = true ∧ Rc ts a i := by
      intro k
      induction k with
      | zero => intro i hi; exact ⟨i, hi, .refl⟩
      | succ k ih =>
        intro i hi
        have hi : (stepS ts op (iterF (stepS ts op) k s)).testBit i = true := hi
        rw [mem_step ((iterF_sub h k).sm hop)] at hi
        rcases hi.2 with h1 | ⟨_, b, hb, hc⟩
        · exact ih i h1
        · obtain ⟨a, ha, hr⟩ := ih b hb
          exact ⟨a, ha, .step hr hc⟩
    exact this _ i hi
  · rintro ⟨a, ha, hr⟩
    induction hr with
    | refl => exact reach_sub_ h a ha
    | @step b c _ hc ih =>
      have hsm : Sm (reachS ts op s) := Sub.sm (iterF_sub (ts := ts) h 1025) hop
      rw [← reach_fix h hop, mem_step hsm]
      have hopc := hall b c hc
      refine ⟨hopc, .inr ⟨?_, b, ih, hc⟩⟩
      rcases Nat.lt_or_ge c 1024 with hl | hl
      · exact hl
      · rw [hop c hl] at hopc; cases hopc
theorem toAt_lt {ts : List Tm} (hc : closed ts = true) {b : Nat} {t : Int} (h : t ∈ toAt ts b) : 0 ≤ t ∧ t < ts.length ∧ b < ts.length := by
  unfold toAt at h
  split at h
  · rename_i u hu
    obtain ⟨j, hj⟩ := List.mem_iff_getElem?.1 h
    have hm : (⟨(b : Int), (j : Int), t⟩ : Ed) ∈ edges ts := mem_edges.2 ⟨b, j, u, hu, hj, rfl, rfl⟩
    unfold closed at hc
    simp only [Bool.and_eq_true, decide_eq_true_eq, List.all_eq_true] at hc
    have := hc.1.1 _ hm
    exact ⟨this.1, this.2, (List.getElem?_eq_some_iff.1 hu).1⟩
  · cases h
theorem closed_le {ts : List Tm} (hc : closed ts = true) : 0 < ts.length ∧ ts.length ≤ 200 := by
  unfold closed at hc
  simp only [Bool.and_eq_true, decide_eq_true_eq] at hc
  exact ⟨hc.1.2, hc.2⟩
/-- What Reached tells, no block shut. -/
theorem mem_reachedF {ts : List Tm} {fr : List Int} (hc : closed ts = true) (i : Nat) : i ∈ reachedF ts fr [] ↔ ∃ a : Nat, a < ts.length ∧ (a : Int) ∈ fr ∧ Rc ts a i := by
  have hl := (closed_le hc).2
  unfold reachedF
  rw [hc, cond_true, mem_listS]
  have hop : lessL (allS ts.length) [] = allS ts.length := rfl
  rw [hop]
  have hsub : Sub (allS ts.length &&& ofL fr) (allS ts.length) := fun i hi => by
    rw [Nat.testBit_and] at hi
    simp only [Bool.and_eq_true] at hi
    exact hi.1
  have hall : ∀ b c : Nat, (c : Int) ∈ toAt ts b → (allS ts.length).testBit c = true := fun b c h => by
    rw [testBit_allS _ _ (by omega)]
    have := toAt_lt hc h
    simp; omega
  rw [mem_reach hsub (allS_sm (by omega)) hall]
  constructor
  · rintro ⟨_, a, ha, hr⟩
    rw [Nat.testBit_and, testBit_allS _ _ (by omega), testBit_ofL] at ha
    simp only [Bool.and_eq_true, decide_eq_true_eq, List.contains_iff_mem] at ha
    exact ⟨a, ha.1, ha.2.2, hr⟩
  · rintro ⟨a, h1, h2, hr⟩
    refine ⟨?_, a, ?_, hr⟩
    · cases hr with
      | refl => omega
      | step _ h => have := toAt_lt hc h; omega
    · rw [Nat.testBit_and, testBit_allS _ _ (by omega), testBit_ofL]
      have : okN (a : Int) = true := by rw [okN_iff]; omega
      simp [this, h1, h2]
theorem upto_nodup (s n : Nat) : (upto s n).Nodup := by unfold upto; exact List.Pairwise.filter _ List.nodup_range
theorem reachedF_nodup (ts : List Tm) (fr nt : List Int) : (reachedF ts fr nt).Nodup := by
  unfold reachedF
  cases closed ts
  · exact List.nodup_nil
  · rw [cond_true]; unfold listS; exact upto_nodup _ _

/-! ### The walk in depth -/
def After (l : List Nat) (x y : Nat) : Prop := ∃ p q, l = p ++ x :: q ∧ y ∈ q
theorem After.more {l : List Nat} {x y : Nat} (h : After l x y) (r : List Nat) : After (r ++ l) x y := by
  obtain ⟨p, q, rfl, hy⟩ := h
  exact ⟨r ++ p, q, by simp, hy⟩
structure DPre (ts : List Tm) (b : Nat) (st : Dst) : Prop where
  sm : Sm st.1
  acc : ∀ y ∈ st.2, st.1.testBit y = true
  nd : st.2.Nodup
  gray : ∀ y, st.1.testBit y = true → y ∈ st.2 ∨ Rc ts y b
structure DPost (ts : List Tm) (b : Nat) (st : Dst) (r : Dst) (nl : List Nat) : Prop where
  eq : r.2 = nl ++ st.2
  seen : ∀ i, r.1.testBit i = true ↔ st.1.testBit i = true ∨ i ∈ nl
  sm : Sm r.1
  nd : (nl ++ st.2).Nodup
  new : ∀ x ∈ nl, Rc ts b x ∧ st.1.testBit x = false ∧ x < ts.length
  next : ∀ x ∈ nl, ∀ y : Nat, (y : Int) ∈ toAt ts x → r.1.testBit y = true ∧ (After (nl ++ st.2) x y ∨ Rc ts y x)
theorem fold_spec {ts : List Tm} (hc : closed ts = true) {fuel b : Nat} (ih : ∀ (b : Nat) (st : Dst), b < ts.length → ts.length - card st.1 ts.length < fuel → DPre ts b st → ∃ new, DPost ts b st (dfs ts fuel b st) new ∧ (dfs ts fuel b st).1.testBit b = true) :
    ∀ (l : List Int) (st : Dst), (∀ t ∈ l, t ∈ toAt ts b) → ts.length - card st.1 ts.length < fuel → DPre ts b st → ∃ new, DPost ts b st (l.foldl (fun st t => dfs ts fuel t.toNat st) st) new ∧ ∀ t : Nat, (t : Int) ∈ l → (l.foldl (fun st t => dfs ts fuel t.toNat st) st).1.testBit t = true
  | [], st, _, _, h => ⟨[], ⟨rfl, fun i => by simp, h.sm, h.nd, fun x h => (by cases h), fun x h => (by cases h)⟩, fun t h => (by cases h)⟩
  | t :: l, st, hl, hf, h => by
    have htm := hl t (by simp)
    have htl := toAt_lt hc htm
    have hcast : ((t.toNat : Nat) : Int) = t := by omega
    obtain ⟨n1, p1, q1⟩ := ih t.toNat st (by omega) hf ⟨h.sm, h.acc, h.nd, fun y hy => (h.gray y hy).imp id fun hr => .step hr (by rw [hcast]; exact htm)⟩
    obtain ⟨st1, hst1⟩ : ∃ st1, st1 = dfs ts fuel t.toNat st := ⟨_, rfl⟩
    rw [← hst1] at p1 q1
    have hmono : card st.1 ts.length ≤ card st1.1 ts.length := card_mono fun i hi => (p1.seen i).2 (.inl hi)
    obtain ⟨n2, p2, q2⟩ := fold_spec hc ih l st1 (fun t ht => hl t (by simp [ht])) (by omega)
      ⟨p1.sm, fun y hy => by
        rw [p1.eq, List.mem_append] at hy
        exact (p1.seen y).2 (hy.elim .inr fun h2 => .inl (h.acc y h2)), by rw [p1.eq]; exact p1.nd, fun y hy => by
        rw [p1.eq, List.mem_append]
        rcases (p1.seen y).1 hy with h2 | h2
        · rcases h.gray y h2 with h3 | h3
          · exact .inl (.inr h3)
          · exact .inr h3
        · exact .inl (.inl h2)⟩
    have e : (t :: l).foldl (fun st t => dfs ts fuel t.toNat st) st = l.foldl (fun st t => dfs ts fuel t.toNat st) st1 := by rw [hst1]; rfl
    rw [e]
    have eq2 : n2 ++ st1.2 = n2 ++ n1 ++ st.2 := by rw [p1.eq]; simp
    refine ⟨n2 ++ n1, ⟨by rw [p2.eq, eq2], fun i => by rw [p2.seen, p1.seen, List.mem_append]; exact ⟨fun h => by rcases h with (h | h) | h <;> simp [h], fun h => by rcases h with h | h | h <;> simp [h]⟩, p2.sm, by rw [← eq2]; exact p2.nd, fun x hx => ?_, fun x hx y hy => ?_⟩, fun u hu => ?_⟩
    · rcases List.mem_append.1 hx with hx | hx
      · obtain ⟨h1, h2, h3⟩ := p2.new x hx
        refine ⟨h1, ?_, h3⟩
        cases h4 : st.1.testBit x with
        | false => rfl
        | true => rw [(p1.seen x).2 (.inl h4)] at h2; cases h2
      · obtain ⟨h1, h2, h3⟩ := p1.new x hx
        exact ⟨(Rc.one (by rw [hcast]; exact htm)).trans h1, h2, h3⟩
    · rw [← eq2]
      rcases List.mem_append.1 hx with hx | hx
      · exact p2.next x hx y hy
      · obtain ⟨h1, h2⟩ := p1.next x hx y hy
        refine ⟨(p2.seen y).2 (.inl h1), h2.imp (fun h3 => ?_) id⟩
        rw [p1.eq]; exact h3.more n2
    · rcases List.mem_cons.1 hu with hu | hu
      · subst hu
        exact (p2.seen u).2 (.inl (by simpa using q1))
      · exact q2 u hu
theorem dfs_spec {ts : List Tm} (hc : closed ts = true) : ∀ (fuel b : Nat) (st : Dst), b < ts.length → ts.length - card st.1 ts.length < fuel → DPre ts b st → ∃ new, DPost ts b st (dfs ts fuel b st) new ∧ (dfs ts fuel b st).1.testBit b = true := by
  intro fuel
  induction fuel with
  | zero => intro b st _ h; omega
  | succ fuel ih =>
    intro b st hb hf h
    have hl := (closed_le hc).2
    cases hs : st.1.testBit b with
    | true =>
      have e : dfs ts (fuel + 1) b st = st := by simp only [dfs, hs, cond_true]
      rw [e]
      exact ⟨[], ⟨rfl, fun i => by simp, h.sm, h.nd, fun x h => (by cases h), fun x h => (by cases h)⟩, hs⟩
    | false =>
      obtain ⟨s1, hs1⟩ : ∃ s1, s1 = withL st.1 [(b : Int)] := ⟨_, rfl⟩
      have hbit : ∀ i, s1.testBit i = true ↔ st.1.testBit i = true ∨ i = b := fun i => by rw [hs1, testBit_with1 _ _ _ (by omega)]; simp
      have hgrow : card st.1 ts.length < card s1 ts.length := by rw [hs1]; exact card_with1 hb (by omega) hs
      have hcl := card_le s1 ts.length
      obtain ⟨nw, p, q⟩ := fold_spec hc (b := b) ih (toAt ts b) (s1, st.2) (fun t h => h) (by show ts.length - card s1 ts.length < fuel; omega)
        ⟨by rw [hs1]; exact withL_sm h.sm, fun y hy => (hbit y).2 (.inl (h.acc y hy)), h.nd, fun y hy => by
          rcases (hbit y).1 hy with h1 | rfl
          · exact h.gray y h1
          · exact .inr .refl⟩
      obtain ⟨r, hr⟩ : ∃ r, r = (toAt ts b).foldl (fun st t => dfs ts fuel t.toNat st) (s1, st.2) := ⟨_, rfl⟩
      have e : dfs ts (fuel + 1) b st = (r.1, b :: r.2) := by simp only [dfs, hs, cond_false, hr, hs1]
      rw [← hr] at p q
      rw [e]
      have hbs : r.1.testBit b = true := (p.seen b).2 (.inl ((hbit b).2 (.inr rfl)))
      have hbn : b ∉ nw := fun hm => by
        have := (p.new b hm).2.1
        rw [(hbit b).2 (.inr rfl)] at this; cases this
      have hba : b ∉ st.2 := fun hm => by rw [h.acc b hm] at hs; cases hs
      refine ⟨b :: nw, ⟨by rw [p.eq]; rfl, fun i => by
        rw [p.seen, hbit, List.mem_cons]
        exact or_assoc, p.sm, by
        rw [List.cons_append, List.nodup_cons, List.mem_append]
        exact ⟨fun h => h.elim hbn hba, p.nd⟩, fun x hx => ?_, fun x hx y hy => ?_⟩, hbs⟩
      · rcases List.mem_cons.1 hx with rfl | hx
        · exact ⟨.refl, hs, hb⟩
        · obtain ⟨h1, h2, h3⟩ := p.new x hx
          refine ⟨h1, ?_, h3⟩
          cases h4 : st.1.testBit x with
          | false => rfl
          | true => rw [(hbit x).2 (.inl h4)] at h2; cases h2
      · rcases List.mem_cons.1 hx with rfl | hx
        · have hy1 := q y hy
          refine ⟨hy1, ?_⟩
          rcases (p.seen y).1 hy1 with h1 | h1
          · rcases (hbit y).1 h1 with h2 | rfl
            · rcases h.gray y h2 with h3 | h3
              · exact .inl ⟨[], nw ++ st.2, rfl, List.mem_append_right _ h3⟩
              · exact .inr h3
            · exact .inr .refl
          · exact .inl ⟨[], nw ++ st.2, rfl, List.mem_append_left _ h1⟩
        · obtain ⟨h1, h2⟩ := p.next x hx y hy
          exact ⟨h1, h2.imp (fun h3 => h3.more [b]) id⟩

theorem nodup_le : ∀ (l m : List Nat), l.Nodup → (∀ x ∈ l, x ∈ m) → l.length ≤ m.length
  | [], m, _, _ => Nat.zero_le _
  | x :: l, m, hn, h => by
    rw [List.nodup_cons] at hn
    have hx := h x (by simp)
    have := nodup_le l (m.erase x) hn.2 fun y hy => (List.mem_erase_of_ne (fun e => hn.1 (by subst e; exact hy))).2 (h y (by simp [hy]))
    rw [List.length_erase_of_mem hx] at this
    have : 0 < m.length := List.length_pos_of_mem hx
    simp only [List.length_cons]
    omega
theorem order_spec {ts : List Tm} (hc : closed ts = true) : ∃ r nw, r = dfs ts (ts.length + 1) 0 (0, []) ∧ orderF ts = nw ∧ DPost ts 0 (0, []) r nw ∧ r.1.testBit 0 = true := by
  obtain ⟨nw, p, q⟩ := dfs_spec hc (ts.length + 1) 0 (0, []) (closed_le hc).1 (by omega) ⟨fun n _ => by simp, fun y h => (by cases h), List.nodup_nil, fun y h => by simp at h⟩
  refine ⟨_, nw, rfl, ?_, p, q⟩
  unfold orderF
  rw [hc, cond_true, p.eq]
  simp
theorem order_nodup {ts : List Tm} (hc : closed ts = true) : (orderF ts).Nodup := by
  obtain ⟨r, nw, _, e, p, _⟩ := order_spec hc
  rw [e]; simpa using p.nd
theorem order_edge {ts : List Tm} (hc : closed ts = true) {a y : Nat} (ha : a ∈ orderF ts) (hy : (y : Int) ∈ toAt ts a) : y ∈ orderF ts ∧ (After (orderF ts) a y ∨ Rc ts y a) := by
  obtain ⟨r, nw, _, e, p, _⟩ := order_spec hc
  rw [e] at ha ⊢
  obtain ⟨h1, h2⟩ := p.next a ha y hy
  exact ⟨by simpa using (p.seen y).1 h1, by simpa using h2⟩
theorem order_mem {ts : List Tm} (hc : closed ts = true) (i : Nat) : i ∈ orderF ts ↔ Rc ts 0 i := by
  obtain ⟨r, nw, _, e, p, q⟩ := order_spec hc
  constructor
  · intro h
    rw [e] at h
    exact (p.new i h).1
  · intro h
    induction h with
    | refl => rw [e]; simpa using (p.seen 0).1 q
    | step _ h2 ih => exact (order_edge hc ih h2).1
theorem order_reached {ts : List Tm} (hc : closed ts = true) (i : Nat) : i ∈ orderF ts ↔ i ∈ reachedF ts [0] [] := by
  rw [order_mem hc, mem_reachedF hc]
  constructor
  · intro h
    exact ⟨0, (closed_le hc).1, by simp, h⟩
  · rintro ⟨a, _, ha, hr⟩
    have : a = 0 := by simpa using ha
    subst this; exact hr
theorem order_len {ts : List Tm} (hc : closed ts = true) : (orderF ts).length = (reachedF ts [0] []).length :=
  Nat.le_antisymm (nodup_le _ _ (order_nodup hc) fun x hx => (order_reached hc x).1 hx) (nodup_le _ _ (reachedF_nodup _ _ _) fun x hx => (order_reached hc x).2 hx)
theorem dfs_head {ts : List Tm} {k b : Nat} {st : Dst} (h : st.1.testBit b = false) : ∃ r : Dst, dfs ts (k + 1) b st = (r.1, b :: r.2) :=
  ⟨(toAt ts b).foldl (fun st t => dfs ts k t.toNat st) (withL st.1 [(b : Int)], st.2), by simp only [dfs, h, cond_false]⟩
theorem order_head {ts : List Tm} (hc : closed ts = true) : ∃ t, orderF ts = 0 :: t := by
  obtain ⟨r, hr⟩ := dfs_head (ts := ts) (k := ts.length) (b := 0) (st := (0, [])) (by simp)
  refine ⟨r.2, ?_⟩
  unfold orderF
  rw [hc, cond_true, hr]
/-! places -/
def placeI (l : List Int) (n : Int) : Int := match l.findIdx? (fun x => decide (x = n)) with
  | some i => (i : Int)
  | none => -1
end Go.Proofs.Ytbcnejobnmljlaa
