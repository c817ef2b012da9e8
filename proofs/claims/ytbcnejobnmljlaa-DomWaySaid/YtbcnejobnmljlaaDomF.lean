/- Dominators of a function's blocks: the plain law at the order of blocks. -/
import Derived.Test.YtbcnejobnmljlaaDomLaw
import Derived.Test.YtbcnejobnmljlaaFlowLaw
namespace Go.Proofs.Ytbcnejobnmljlaa
set_option linter.unusedVariables false
set_option maxRecDepth 10000
open Go Go.RowKit

theorem fold_par {ts : List Tm} {fuel : Nat} (ih : ∀ (b : Nat) (st : Dst), ∃ nl, (dfs ts fuel b st).2 = nl ++ st.2 ∧ ∀ x ∈ nl, x = b ∨ ∃ p, (x : Int) ∈ toAt ts p ∧ After (dfs ts fuel b st).2 p x) :
    ∀ (l : List Int) (st : Dst), (∀ t ∈ l, 0 ≤ t) → ∃ nl, (l.foldl (fun st t => dfs ts fuel t.toNat st) st).2 = nl ++ st.2 ∧ ∀ x ∈ nl, (x : Int) ∈ l ∨ ∃ p, (x : Int) ∈ toAt ts p ∧ After (l.foldl (fun st t => dfs ts fuel t.toNat st) st).2 p x
  | [], st, _ => ⟨[], rfl, fun x h => (by cases h)⟩
  | t :: l, st, h0 => by
    obtain ⟨n1, e1, h1⟩ := ih t.toNat st
    obtain ⟨n2, e2, h2⟩ := fold_par ih l (dfs ts fuel t.toNat st) (fun t ht => h0 t (by simp [ht]))
    have ht := h0 t (by simp)
    refine ⟨n2 ++ n1, by rw [List.foldl_cons, e2, e1]; simp, fun x hx => ?_⟩
    rw [List.foldl_cons]
    rcases List.mem_append.1 hx with hx | hx
    · rcases h2 x hx with h3 | h3
      · exact .inl (by simp [h3])
      · exact .inr h3
    · rcases h1 x hx with rfl | ⟨p, h3, h4⟩
      · exact .inl (by simp; omega)
      · exact .inr ⟨p, h3, by rw [e2]; exact h4.more n2⟩
theorem dfs_par {ts : List Tm} (hc : closed ts = true) : ∀ (fuel b : Nat) (st : Dst), ∃ nl, (dfs ts fuel b st).2 = nl ++ st.2 ∧ ∀ x ∈ nl, x = b ∨ ∃ p, (x : Int) ∈ toAt ts p ∧ After (dfs ts fuel b st).2 p x := by
  intro fuel
  induction fuel with
  | zero => exact fun b st => ⟨[], rfl, fun x h => (by cases h)⟩
  | succ fuel ih =>
    intro b st
    cases hs : st.1.testBit b with
    | true =>
      have e : dfs ts (fuel + 1) b st = st := by simp only [dfs, hs, cond_true]
      rw [e]
      exact ⟨[], rfl, fun x h => (by cases h)⟩
    | false =>
      obtain ⟨nl, e, h⟩ := fold_par ih (toAt ts b) (withL st.1 [(b : Int)], st.2) (fun t ht => (toAt_lt hc ht).1)
      have e2 : (dfs ts (fuel + 1) b st).2 = b :: ((toAt ts b).foldl (fun st t => dfs ts fuel t.toNat st) (withL st.1 [(b : Int)], st.2)).2 := by simp only [dfs, hs, cond_false]
      rw [e2]
      refine ⟨b :: nl, by rw [e]; rfl, fun x hx => ?_⟩
      rcases List.mem_cons.1 hx with rfl | hx
      · exact .inl rfl
      · right
        rcases h x hx with h1 | ⟨p, h1, h2⟩
        · exact ⟨b, h1, [], _, rfl, by rw [e]; exact List.mem_append_left _ hx⟩
        · exact ⟨p, h1, h2.more [b]⟩
theorem After.mem {l : List Nat} {x y : Nat} (h : After l x y) : x ∈ l ∧ y ∈ l := by
  obtain ⟨p, q, rfl, hy⟩ := h
  exact ⟨by simp, by simp [hy]⟩
theorem order_par {ts : List Tm} (hc : closed ts = true) {c : Nat} (h : c ∈ orderF ts) (h0 : c ≠ 0) : ∃ p, (c : Int) ∈ toAt ts p ∧ After (orderF ts) p c := by
  obtain ⟨nl, e, hp⟩ := dfs_par hc (ts.length + 1) 0 (0, [])
  have e2 : orderF ts = (dfs ts (ts.length + 1) 0 (0, [])).2 := by unfold orderF; rw [hc, cond_true]
  rw [e2, e] at h
  rcases hp c (by simpa using h) with h1 | h1
  · exact absurd h1 h0
  · rw [e2]; exact h1
theorem order_edge' {ts : List Tm} (hc : closed ts = true) {a y : Nat} (ha : a ∈ orderF ts) (hy : (y : Int) ∈ toAt ts a) : y ∈ orderF ts := (order_edge hc ha hy).1
theorem After.idx {l : List Nat} (hn : l.Nodup) {x y : Nat} (h : After l x y) : l.idxOf x < l.idxOf y := by
  obtain ⟨p, q, rfl, hy⟩ := h
  rw [List.nodup_append] at hn
  obtain ⟨_, h2, h3⟩ := hn
  rw [List.nodup_cons] at h2
  have hx : x ∉ p := fun hx => h3 x hx x (by simp) rfl
  have hyp : y ∉ p := fun hx => h3 y hx y (by simp [hy]) rfl
  have hne : y ≠ x := fun e => h2.1 (by subst e; exact hy)
  rw [List.idxOf_append, List.idxOf_append, if_neg hx, if_neg hyp, List.idxOf_cons, List.idxOf_cons]
  have e : (x == y) = false := by simpa using fun e : x = y => hne e.symm
  rw [e]
  simp
noncomputable def parF (ts : List Tm) (c : Nat) : Nat := Classical.epsilon fun p => (c : Int) ∈ toAt ts p ∧ After (orderF ts) p c
theorem parF_spec {ts : List Tm} (hc : closed ts = true) {c : Nat} (h : c ∈ orderF ts) (h0 : c ≠ 0) : (c : Int) ∈ toAt ts (parF ts c) ∧ After (orderF ts) (parF ts c) c := Classical.epsilon_spec (order_par hc h h0)
theorem order_zero {ts : List Tm} (hc : closed ts = true) : 0 ∈ orderF ts := by
  obtain ⟨t, h⟩ := order_head hc
  rw [h]; simp
noncomputable def gra (ts : List Tm) (hc : closed ts = true) : Gra where
  R x := x ∈ orderF ts
  E a b := (b : Int) ∈ toAt ts a
  pl x := (orderF ts).idxOf x
  p0 := parF ts
  r0 := order_zero hc
  pl0 := by
    obtain ⟨t, h⟩ := order_head hc
    rw [h]; simp
  inj a b ha hb h := by
    have h1 := List.getElem_idxOf (List.idxOf_lt_length_of_mem ha)
    have h2 := List.getElem_idxOf (List.idxOf_lt_length_of_mem hb)
    rw [← h1, ← h2]
    simp only [h]
  par c h h0 := by
    obtain ⟨h1, h2⟩ := parF_spec hc h h0
    exact ⟨h2.mem.1, h1, h2.idx (order_nodup hc)⟩
  fwd a b ha he := order_edge' hc ha he
theorem gra_pos {ts : List Tm} (hc : closed ts = true) (c : Nat) : c = 0 ∨ (gra ts hc).pl c ≠ 0 ∨ ¬ (gra ts hc).R c := by
  by_cases h : c ∈ orderF ts
  · by_cases h0 : c = 0
    · exact .inl h0
    · right; left
      intro e
      exact h0 ((gra ts hc).inj c 0 h (order_zero hc) (by rw [e, (gra ts hc).pl0]))
  · exact .inr (.inr h)
/-- The blocks ahead of one, one by one edge. -/
def preF (ts : List Tm) (b : Nat) : List Nat := ((edges ts).filter fun e => decide (e.to = (b : Int))).map fun e => e.src.toNat
theorem mem_preF {ts : List Tm} {a b : Nat} : a ∈ preF ts b ↔ (b : Int) ∈ toAt ts a := by
  unfold preF
  simp only [List.mem_map, List.mem_filter, decide_eq_true_eq]
  constructor
  · rintro ⟨e, ⟨he, h1⟩, rfl⟩
    obtain ⟨k, j, t, hk, hj, h2, h3⟩ := mem_edges.1 he
    rw [h2, Int.toNat_natCast, toAt_some hk, ← h1]
    exact List.mem_of_getElem? hj
  · intro h
    unfold toAt at h
    cases ht : ts[a]? with
    | none => rw [ht] at h; cases h
    | some t =>
      rw [ht] at h
      obtain ⟨j, hj⟩ := List.mem_iff_getElem?.1 h
      exact ⟨⟨(a : Int), (j : Int), (b : Int)⟩, ⟨mem_edges.2 ⟨a, j, t, ht, hj, rfl, rfl⟩, rfl⟩, by simp⟩
/-- What each block is told to be below, as a list. -/
def asU (ul : List Int) : Nat → Int := fun x => ul.getD x (-1)
theorem asU_set {ul : List Int} {b : Nat} {r : Int} (h : b < ul.length) : asU (ul.set b r) = setU (asU ul) b r := by
  funext x
  unfold asU setU
  rw [List.getD_eq_getElem?_getD, List.getElem?_set]
  by_cases e : b = x
  · subst e; simp [h]
  · rw [if_neg e, if_neg (fun e2 => e e2.symm), ← List.getD_eq_getElem?_getD]
theorem asU_get {ul : List Int} {b : Nat} (h : b < ul.length) : ul[b]? = some (asU ul b) := by
  unfold asU
  rw [List.getD_eq_getElem?_getD, List.getElem?_eq_getElem h]; rfl
theorem asU_rep (n : Nat) : asU (List.replicate n (-1)) = fun _ => -1 := by
  funext x
  unfold asU
  rw [List.getD_eq_getElem?_getD, List.getElem?_replicate]
  split <;> rfl
/-- What is left to be lowered. -/
def costU (pl : Nat → Nat) (n : Nat) (v : Int) : Nat := if v < 0 then n else pl v.toNat
def muU (pl : Nat → Nat) (n : Nat) (ul : List Int) : Nat := (ul.map (costU pl n)).sum
theorem sum_set : ∀ (l : List Nat) (i x : Nat) (h : i < l.length), (l.set i x).sum + l[i] = l.sum + x
  | [], i, x, h => by simp at h
  | a :: l, 0, x, h => by simp; omega
  | a :: l, i + 1, x, h => by
    have := sum_set l i x (by simpa using h)
    simp at this ⊢; omega
theorem muU_set {pl : Nat → Nat} {n b m : Nat} {ul : List Int} (h : b < ul.length) (hlt : pl m < costU pl n (asU ul b)) : muU pl n (ul.set b (m : Int)) < muU pl n ul := by
  unfold muU
  rw [List.map_set]
  have h1 := sum_set (ul.map (costU pl n)) b (costU pl n (m : Int)) (by simpa using h)
  have h2 : costU pl n (m : Int) = pl m := by unfold costU; rw [if_neg (by omega)]; simp
  have h3 : (ul.map (costU pl n))[b]'(by simpa using h) = costU pl n (asU ul b) := by
    rw [List.getElem_map]
    congr 1
    have := asU_get h
    rw [List.getElem?_eq_getElem h] at this
    exact Option.some.inj this
  omega
theorem order_lt {ts : List Tm} (hc : closed ts = true) {x : Nat} (h : x ∈ orderF ts) : x < ts.length := by
  obtain ⟨r, nw, _, e, p, _⟩ := order_spec hc
  rw [e] at h
  exact (p.new x h).2.2
theorem Ps.lower {ts : List Tm} {hc : closed ts = true} {ul : List Int} {k b m : Nat} (h : Ps (gra ts hc) (preF ts) (asU ul) k) (hb : b ∈ orderF ts) (hb0 : b ≠ 0) (hk : (orderF ts).idxOf b = k) (hm : Eva (asU ul) (preF ts b) (m : Int)) (hne : (m : Int) ≠ asU ul b) (hl : b < ul.length) :
    muU ((orderF ts).idxOf ·) (orderF ts).length (ul.set b (m : Int)) < muU ((orderF ts).idxOf ·) (orderF ts).length ul := by
  have hpar := (gra ts hc).par b hb hb0
  refine muU_set hl ?_
  have hmR : m ∈ orderF ts := by
    rcases hm with ⟨h1, _⟩ | ⟨m', h1, h2, _⟩
    · omega
    · have : m' = m := by omega
      subst this
      exact h2.reached h.tr
  unfold costU
  rcases h.j7 b with e | e
  · rw [if_pos (by omega)]
    exact List.idxOf_lt_length_of_mem hmR
  · rw [if_neg (by omega)]
    have h1 := h.shrinks hb hb0 hk (mem_preF.2 hpar.2.1) e hm
    rcases h1.le h.tr with h2 | h2
    · omega
    · exact h2
/-- The immediate dominators. -/
def DomU (ts : List Tm) (ul : List Int) : Prop := ul.length = ts.length ∧ ∀ hc : closed ts = true, Fin_ (gra ts hc) (asU ul)
theorem DomU.eq {ts : List Tm} (hc : closed ts = true) {a b : List Int} (ha : DomU ts a) (hb : DomU ts b) : a = b := by
  have h := (ha.2 hc).eq (hb.2 hc)
  apply List.ext_getElem (by rw [ha.1, hb.1])
  intro i h1 h2
  have e1 := asU_get h1
  have e2 := asU_get h2
  rw [List.getElem?_eq_getElem h1] at e1
  rw [List.getElem?_eq_getElem h2] at e2
  have e1 := Option.some.inj e1
  have e2 := Option.some.inj e2
  rw [e1, e2, h i]
/-- The immediate dominators, told. -/
noncomputable def domL (ts : List Tm) : List Int := Classical.epsilon (DomU ts)
theorem DomU.eqL {ts : List Tm} (hc : closed ts = true) {a : List Int} (ha : DomU ts a) : a = domL ts := ha.eq hc (Classical.epsilon_spec ⟨a, ha⟩)
theorem domL_spec {ts : List Tm} {a : List Int} (ha : DomU ts a) : DomU ts (domL ts) := Classical.epsilon_spec ⟨a, ha⟩
/-- Where each block stands among the first k of the order; -1: nowhere. -/
def plTo (ts : List Tm) (k x : Nat) : Int := if x ∈ (orderF ts).take k then ((orderF ts).idxOf x : Int) else -1
def plL (ts : List Tm) : List Int := (List.range ts.length).map (plTo ts (orderF ts).length)
theorem plL_len (ts : List Tm) : (plL ts).length = ts.length := by simp [plL]
theorem plL_get {ts : List Tm} {x : Nat} (h : x < ts.length) : (plL ts)[x]? = some (if x ∈ orderF ts then ((orderF ts).idxOf x : Int) else -1) := by
  unfold plL plTo
  rw [List.getElem?_map, List.getElem?_range h, List.take_length]
  rfl
theorem plTo_zero (ts : List Tm) (x : Nat) : plTo ts 0 x = -1 := by simp [plTo]
theorem plTo_succ {ts : List Tm} (hc : closed ts = true) {k b : Nat} (h : (orderF ts)[k]? = some b) (x : Nat) : plTo ts (k + 1) x = if x = b then (k : Int) else plTo ts k x := by
  unfold plTo
  have hk := (List.getElem?_eq_some_iff.1 h).1
  rw [take_snoc_ h]
  by_cases e : x = b
  · subst e
    have : (orderF ts).idxOf x = k := by
      have h2 := (List.getElem?_eq_some_iff.1 h).2
      have hm : x ∈ orderF ts := List.mem_of_getElem? h
      have h1 := List.getElem_idxOf (List.idxOf_lt_length_of_mem hm)
      have h3 : (orderF ts)[(orderF ts).idxOf x]? = (orderF ts)[k]? := by
        rw [h, List.getElem?_eq_getElem (List.idxOf_lt_length_of_mem hm), h1]
      exact (List.getElem?_inj (List.idxOf_lt_length_of_mem hm) (order_nodup hc)).1 h3
    simp [this]
  · simp [e]
/-- Up from a block. -/
def chF (U : Nat → Int) : Nat → Nat → List Nat
  | 0, _ => []
  | n + 1, b => b :: (if U b < 0 then [] else chF U n (U b).toNat)
theorem mem_chF {G : Gra} {U : Nat → Int} (ht : Tr G U) : ∀ (n b z : Nat), G.pl b < n → (z ∈ chF U n b ↔ Upw U z b)
  | 0, b, z, h => by omega
  | n + 1, b, z, h => by
    unfold chF
    by_cases hu : U b < 0
    · rw [if_pos hu]
      constructor
      · intro h1
        have : z = b := by simpa using h1
        subst this; exact .refl
      · intro h1
        rcases h1.inv with e | ⟨e, _⟩
        · simp [e]
        · omega
    · rw [if_neg hu]
      have h1 := (ht.up b (by omega)).2.2.1
      rw [List.mem_cons, mem_chF ht n (U b).toNat z (by omega)]
      constructor
      · rintro (e | e)
        · subst e; exact .refl
        · exact .up (by omega) e
      · intro h2
        rcases h2.inv with e | ⟨_, e⟩
        · exact .inl e
        · exact .inr e
theorem chF_len (U : Nat → Int) : ∀ (n b : Nat), (chF U n b).length ≤ n
  | 0, _ => by simp [chF]
  | n + 1, b => by
    unfold chF
    have := chF_len U n (U b).toNat
    split <;> simp; omega
/-- Is it a block that is reached? -/
def inP (P : List Int) (b : Int) : Bool := decide (0 ≤ b) && decide (b < (P.length : Int)) && decide (0 ≤ P.getD b.toNat (-1))
theorem inP_iff {ts : List Tm} (hc : closed ts = true) {b : Int} : inP (plL ts) b = true ↔ ∃ x : Nat, b = (x : Int) ∧ x ∈ orderF ts := by
  unfold inP
  rw [plL_len]
  constructor
  · intro h
    simp only [Bool.and_eq_true, decide_eq_true_eq] at h
    obtain ⟨⟨h1, h2⟩, h3⟩ := h
    refine ⟨b.toNat, by omega, ?_⟩
    rw [List.getD_eq_getElem?_getD, plL_get (by omega)] at h3
    by_cases hm : b.toNat ∈ orderF ts
    · exact hm
    · simp [hm] at h3
  · rintro ⟨x, rfl, hx⟩
    have hl := order_lt hc hx
    simp only [Bool.and_eq_true, decide_eq_true_eq, Int.toNat_natCast]
    refine ⟨⟨by omega, by omega⟩, ?_⟩
    rw [List.getD_eq_getElem?_getD, plL_get hl, if_pos hx]
    simp
/-- The blocks that dominate one, itself first; none of one that is not reached. -/
noncomputable def chainL (ts : List Tm) (b : Int) : List Nat := bif closed ts && inP (plL ts) b then chF (asU (domL ts)) (ts.length + 1) b.toNat else []
noncomputable def overF (ts : List Tm) (a b : Int) : Bool := (chainL ts b).any fun d => decide ((d : Int) = a)
theorem order_len_le {ts : List Tm} (hc : closed ts = true) : (orderF ts).length ≤ ts.length := by
  have := nodup_le (orderF ts) (List.range ts.length) (order_nodup hc) fun x hx => by simpa using order_lt hc hx
  simpa using this
theorem overF_iff {ts : List Tm} (hc : closed ts = true) (hd : DomU ts (domL ts)) {a b : Int} : overF ts a b = true ↔ ∃ x y : Nat, a = (x : Int) ∧ b = (y : Int) ∧ y ∈ orderF ts ∧ Dom (gra ts hc) x y := by
  have F := hd.2 hc
  unfold overF chainL
  rw [hc, Bool.true_and, List.any_eq_true]
  constructor
  · rintro ⟨d, hd1, hd2⟩
    have e : (d : Int) = a := by simpa using hd2
    cases hp : inP (plL ts) b with
    | false => rw [hp] at hd1; cases hd1
    | true =>
      rw [hp, cond_true] at hd1
      obtain ⟨y, rfl, hy⟩ := (inP_iff hc).1 hp
      rw [Int.toNat_natCast] at hd1
      have hl : (gra ts hc).pl y < ts.length + 1 := by
        have h1 : (orderF ts).idxOf y < (orderF ts).length := List.idxOf_lt_length_of_mem hy
        have h2 := order_len_le hc
        show (orderF ts).idxOf y < _
        omega
      exact ⟨d, y, e.symm, rfl, hy, (F.dom d y hy).1 ((mem_chF F.tr _ _ _ hl).1 hd1)⟩
  · rintro ⟨x, y, rfl, rfl, hy, hxy⟩
    have hp : inP (plL ts) (y : Int) = true := (inP_iff hc).2 ⟨y, rfl, hy⟩
    refine ⟨x, ?_, by simp⟩
    rw [hp, cond_true, Int.toNat_natCast]
    have hl : (gra ts hc).pl y < ts.length + 1 := by
      have h1 : (orderF ts).idxOf y < (orderF ts).length := List.idxOf_lt_length_of_mem hy
      have h2 := order_len_le hc
      show (orderF ts).idxOf y < _
      omega
    exact (mem_chF F.tr _ _ _ hl).2 ((F.dom x y hy).2 hxy)
/-- The blocks ahead of one, by the first k edges. -/
def preTo (ts : List Tm) (k x : Nat) : List Int := ((((edges ts).take k).filter fun e => decide (e.to = (x : Int))).map Ed.src)
theorem preTo_zero (ts : List Tm) (x : Nat) : preTo ts 0 x = [] := by simp [preTo]
theorem preTo_succ {ts : List Tm} {k : Nat} {e : Ed} (h : (edges ts)[k]? = some e) (x : Nat) : preTo ts (k + 1) x = if e.to = (x : Int) then preTo ts k x ++ [e.src] else preTo ts k x := by
  unfold preTo
  rw [take_snoc_ h, List.filter_append, List.map_append]
  by_cases he : e.to = (x : Int) <;> simp [he]
theorem preTo_all (ts : List Tm) (x : Nat) : preTo ts (edges ts).length x = (preF ts x).map fun n : Nat => (n : Int) := by
  unfold preTo preF
  rw [List.take_length, List.map_map]
  apply List.map_congr_left
  intro e he
  have := (mem_edges.1 (List.mem_filter.1 he).1)
  obtain ⟨k, j, t, _, _, h2, _⟩ := this
  simp [h2]
theorem preTo_len (ts : List Tm) (k x : Nat) : (preTo ts k x).length ≤ k := by
  unfold preTo
  rw [List.length_map]
  exact Nat.le_trans (List.length_filter_le _ _) (by simp; omega)
theorem domL_ex {ts : List Tm} (hc : closed ts = true) : DomU ts (domL ts) := by
  refine domL_spec (a := (List.range ts.length).map (idU (gra ts hc))) ⟨by simp, fun hc' => ?_⟩
  have e : asU ((List.range ts.length).map (idU (gra ts hc))) = idU (gra ts hc) := by
    funext x
    unfold asU
    rw [List.getD_eq_getElem?_getD, List.getElem?_map]
    rcases Nat.lt_or_ge x ts.length with h | h
    · rw [List.getElem?_range h]; rfl
    · rw [List.getElem?_eq_none (by simpa using h)]
      show (-1 : Int) = _
      unfold idU
      rw [if_neg (fun h2 => by have := order_lt hc h2.1; omega)]
  rw [e]
  exact idU_fin _
end Go.Proofs.Ytbcnejobnmljlaa
