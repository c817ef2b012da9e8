/- Part 4 of the proof of LiveLeastC: the texts Live4, DomLaw, DomF, DomR, Live5, Perm, Live6, Has, Repeat, Flow2, Flow3, Order, CountsLaw, Count, Struct, Law10, Dom, one behind the other. -/
import Derived.WalkKit
import Derived.Laws.StructEq
import Derived.Test.YtbcnejobnmljlaaDoorLiveLeastCM3
/- The package live: the most, walked. -/
namespace Go.Proofs.YtbcnejobnmljlaaDoor
set_option linter.unusedVariables false
open Go Go.RowKit
set_option maxRecDepth 100000

/-- What is live at blocks' begins, behind them, as sets. -/
noncomputable def lvI (f : RFun) (b : Nat) : Nat := Classical.epsilon fun s => Sm s ∧ ∀ v, s.testBit v = true ↔ Lv f v b
noncomputable def lvO (f : RFun) (b : Nat) : Nat := Classical.epsilon fun s => Sm s ∧ ∀ v, s.testBit v = true ↔ Lo f v b
theorem bits_eq {s t : Nat} {p : Nat → Prop} (hs : ∀ v, s.testBit v = true ↔ p v) (ht : ∀ v, t.testBit v = true ↔ p v) : s = t := Nat.eq_of_testBit_eq fun v => by rw [Bool.eq_iff_iff, hs, ht]
theorem lvI_eq {f : RFun} {I : Nat → Nat} (h1 : ∀ b, Sm (I b)) (h2 : ∀ b v, (I b).testBit v = true ↔ Lv f v b) : I = lvI f := by
  funext b
  have := Classical.epsilon_spec (p := fun s => Sm s ∧ ∀ v, s.testBit v = true ↔ Lv f v b) ⟨I b, h1 b, h2 b⟩
  exact bits_eq (h2 b) this.2
theorem lvO_eq {f : RFun} {O : Nat → Nat} (h1 : ∀ b, Sm (O b)) (h2 : ∀ b v, (O b).testBit v = true ↔ Lo f v b) : O = lvO f := by
  funext b
  have := Classical.epsilon_spec (p := fun s => Sm s ∧ ∀ v, s.testBit v = true ↔ Lo f v b) ⟨O b, h1 b, h2 b⟩
  exact bits_eq (h2 b) this.2
/-- How many are live at a block's points, from the last one on. -/
def manyP (x : RBlk) (o k : Nat) : Nat := (List.range k).foldl (fun m j => max m (listS (ptAt x.ins (endS x o) (x.ins.length - j))).length) 0
theorem manyP_succ (x : RBlk) (o k : Nat) : manyP x o (k + 1) = max (manyP x o k) (listS (ptAt x.ins (endS x o) (x.ins.length - k))).length := by
  unfold manyP
  rw [List.range_succ, List.foldl_append]; rfl
noncomputable def mostTo (f : RFun) : Nat → Nat
  | 0 => 0
  | k + 1 => max (mostTo f k) (match f.blocks[k]? with
    | some x => manyP x (lvO f k) (x.ins.length + 1)
    | none => 0)
theorem right_parts {f : RFun} (h : rightF f = 0) : okEs f.terms = true ∧ 0 < f.blocks.length ∧ f.blocks.length ≤ 200 ∧ valuedF f = true ∧ f.params.length ≤ 8 ∧ (∀ b ∈ f.blocks, b.ins.length ≤ 64) ∧ wholeF f = true := by
  obtain ⟨h1, h2, h3, _, h5⟩ := rightF_iff.1 h
  obtain ⟨h6, h7, h8, h9⟩ := long_parts h1
  exact ⟨h3, h6, h7, h5, h8, h9, h2⟩
section
set_option maxHeartbeats 4000000 in
theorem live_Most_ct {w : World} {f : RFun} (hf : FunAt w w.heap.size f) (hfit : Fit f) : Ct Tryd.prog 46 #[f.val] w (Is (.int .i64 ((if rightF f = 0 then mostTo f f.blocks.length else 0 : Nat) : Int))) := by
  have hbl := hfit.blen
  refine Ct.mk Tryd.func46 rfl rfl ?_
  refine Cd.seq ?_
  refine Cd.region ?_
  refine Ol.x bxg ?_
  rintro _ _ ⟨g1, rfl, rfl⟩
  refine Ol.x (alc zr_int) ?_
  rintro _ _ ⟨g2, rfl, rfl⟩
  refine Ol.nil ?_
  refine Cd.seq ?_
  refine Cd.seq ?_
  refine Cd.region ?_
  refine Ol.p (ldw ag_api_Func (i := 1) rfl rfl) ?_
  refine Ol.s (cl en_ir_Right (fun M w' hh => ir_Right_ct (hf.now hh) hfit)) ?_
  refine Ol.p nei ?_
  refine Ol.nil ?_
  refine Cd.cond rfl (fun h => ?_) (fun h => ?_)   -- $10
  · have hne : rightF f ≠ 0 := by simpa using h
    refine Cd.seq ?_
    refine Cd.region ?_
    refine Ol.s (stv sz_int (i := 0) rfl rfl) ?_
    refine Ol.nil ?_
    exact Cd.ret ⟨.int .i64 _, retv rfl one_int rfl (i := 0) rfl rfl, [], .nil, by rw [if_neg hne]; rfl, rfl⟩
  have hr : rightF f = 0 := by simpa using h
  rw [if_pos hr]
  obtain ⟨hok, h0, h200, hval, _, h64, _⟩ := right_parts hr
  refine Cd.skip ?_
  refine Cd.seq ?_
  refine Cd.region ?_
  refine Ol.p (ldw ag_api_Func (i := 1) rfl rfl) ?_
  refine Ol.x (sp_call en_live_solved (fun M w' hh => live_solved_ct (hf.now hh) hfit hok h200)) ?_
  rintro _ _ ⟨_, rfl, gI, gO, I, O, rfl, rfl, hI1, hO1, hI2, hO2⟩
  have hO := lvO_eq hO1 hO2
  have hI := lvI_eq hI1 hI2
  subst hO hI
  refine Ol.x (alc zr_live_flow) ?_
  rintro _ _ ⟨g3, rfl, rfl⟩
  refine Ol.s (stw (vs := #[.slice (some ⟨gI, 0, none⟩) f.blocks.length f.blocks.length, .slice (some ⟨gO, 0, none⟩) f.blocks.length f.blocks.length]) sz_live_flow rfl (by intro u hu; simp at hu; rcases hu with rfl | rfl <;> rfl) (i := 0) rfl rfl) ?_
  refine Ol.nil ?_
  refine Cd.seq ?_
  refine Cd.seq ?_
  refine Cd.region ?_
  refine Ol.p (fdl fd_api_Func_1) ?_
  refine Ol.p (ld one_L_api_Block (Rd.blk (i := 4) rfl rfl)) ?_
  refine Ol.p (lens sl_L_api_Block) ?_
  refine Ol.p mvi ?_
  refine Ol.nil ?_
  refine Cd.block ?_   -- 0
  refine Cd.loop (fun m σ L => ∃ k, m = f.blocks.length - k ∧ k ≤ f.blocks.length ∧ Has σ [(2, .pointer (some ⟨g2, 0, none⟩)), (3, .pointer (some ⟨g3, 0, none⟩)), (14, .slice f.bA f.blocks.length f.bC), (15, .int .i64 f.blocks.length), (16, .int .i64 k)] ∧ [blk g3 (.cells #[.slice (some ⟨gI, 0, none⟩) f.blocks.length f.blocks.length, .slice (some ⟨gO, 0, none⟩) f.blocks.length f.blocks.length] 102), blk gO (.cells (memA f.blocks.length (lvO f)) 27), blk gI (.cells (memA f.blocks.length (lvI f)) 27), blk g2 (.cells #[.int .i64 ((mostTo f k : Nat) : Int)] 3), blk g1 (.cells f.cells.toArray 38)] = L) (n := f.blocks.length) ⟨0, rfl, Nat.zero_le _, ⟨rfl, rfl, rfl, rfl, rfl, trivial⟩, rfl⟩ ?_
  rintro _ σ L ⟨k, rfl, hk, hs, rfl⟩
  refine Cd.has hs ?_
  refine Cd.seq ?_
  refine Cd.region ?_
  refine Ol.p lsi ?_
  refine Ol.nil ?_
  refine Cd.seq ?_
  refine Cd.cond rfl (fun h => ?_) (fun h => ?_)   -- $17
  · have hlt : k < f.blocks.length := by
      simp only [decide_eq_true_eq] at h; omega
    obtain ⟨x, hx⟩ : ∃ x, f.blocks[k]? = some x := ⟨_, List.getElem?_eq_getElem hlt⟩
    have hxm := List.mem_of_getElem? hx
    refine Cd.skip ?_
    refine Cd.seq ?_
    refine Cd.block ?_   -- 1
    refine Cd.seq ?_
    refine Cd.region ?_
    refine Ol.p mvi ?_
    refine Ol.p (ixn (ix := k) sl_L_api_Block (Som.slc hf.blocks (by omega))) ?_
    refine Ol.p (lds (es := x.cells) ag_api_Block hf.blocks x.len (fun j u hu => blk_cell hx hu)) ?_
    refine Ol.x (alc zr_api_Block) ?_
    rintro _ _ ⟨g5, rfl, rfl⟩
    refine Ol.p asi ?_
    refine Ol.s (stw sz_api_Block rfl x.one (i := 0) rfl rfl) ?_
    refine Ol.nil ?_
    refine Cd.seq ?_
    refine Cd.draw mixed 7 (fun opNo => match opNo with | 6 => some (fun v R => ∃ gA gB, v = PointsV gA gB ∧ R = [blk gA (.cells (enc (lvO f k)) 27), blk gB (.cells x.cells.toArray 66)]) | _ => none) (fun _ => []) (by kernel_rfl) (by intro q V h; split at h <;> cases h; exact ⟨_, _, 0, 0, rfl, rfl⟩) (fun u hu => ?_)
    refine Wk.p (ldw ag_api_Block (i := 0) rfl rfl) ?_
    refine Wk.p (fdl fd_live_flow_1) ?_
    refine Wk.p (ld one_L_bits_Set (Rd.blk (i := 1) rfl rfl)) ?_
    refine Wk.p mvi ?_
    refine Wk.p (ixm (ix := k) sl_L_bits_Set) ?_
    refine Wk.p (ldp (k := k * 16) (vs := enc (lvO f k)) ag_bits_Set (i := 2) rfl (enc_size _) (memA_load hlt)) ?_
    refine Wk.x (V := fun v R => ∃ gA gB, v = PointsV gA gB ∧ R = [blk gA (.cells (enc (lvO f k)) 27), blk gB (.cells x.cells.toArray 66)]) hu (sp_call en_live_points (fun M w' hh => live_points_ct (b := x) (out := lvO f k))) ?_
    rintro _ _ hu6 ⟨gA, gB, rfl, rfl⟩
    refine Wk.nil ?_
    rw [needs_cons hu6, needs_none]
    refine Ol.nil ?_
    refine Cd.block ?_   -- 2
    refine Cd.rf (Own := [blk gA (.cells (enc (lvO f k)) 27), blk gB (.cells x.cells.toArray 66)]) (L0 := [blk g5 (.cells x.cells.toArray 66), blk g3 (.cells #[.slice (some ⟨gI, 0, none⟩) f.blocks.length f.blocks.length, .slice (some ⟨gO, 0, none⟩) f.blocks.length f.blocks.length] 102), blk gO (.cells (memA f.blocks.length (lvO f)) 27), blk gI (.cells (memA f.blocks.length (lvI f)) 27), blk g2 (.cells #[.int .i64 ((mostTo f k : Nat) : Int)] 3), blk g1 (.cells f.cells.toArray 38)])
      (fun j L => [blk g5 (.cells x.cells.toArray 66), blk g3 (.cells #[.slice (some ⟨gI, 0, none⟩) f.blocks.length f.blocks.length, .slice (some ⟨gO, 0, none⟩) f.blocks.length f.blocks.length] 102), blk gO (.cells (memA f.blocks.length (lvO f)) 27), blk gI (.cells (memA f.blocks.length (lvI f)) 27), blk g2 (.cells #[.int .i64 ((max (mostTo f k) (manyP x (lvO f k) j) : Nat) : Int)] 3), blk g1 (.cells f.cells.toArray 38)] = L)
      (fun _ _ _ => False) (fun _ h => by cases h) en_live_points_1 (live_points_1_it (hf.blkIn hfit hxm)) (.refl _) (by rw [show max (mostTo f k) (manyP x (lvO f k) 0) = mostTo f k by simp [manyP]]) ysP_two rfl ?_ ?_ ?_
    · rintro l H j vs _ hj rfl
      obtain ⟨q, hq, rfl⟩ := ysP_inv hj
      refine Cd.region ?_
      refine Ol.x (alc zr_bits_Set) ?_
      rintro _ _ ⟨g7, rfl, rfl⟩
      refine Ol.s (stw sz_bits_Set (enc_size _) (encF_one _) (i := 0) rfl rfl) ?_
      refine Ol.nil ?_
      intro H' r hr'
      refine Cd.block ?_   -- 3
      refine Cd.draw mixed 4 (fun opNo => match opNo with | 2 => some (Is (.int .i64 (manyF (ptAt x.ins (endS x (lvO f k)) q) 16 : Int))) | _ => none) (fun _ => []) (by kernel_rfl) (by intro q V h; split at h <;> cases h; exact ⟨_, [], rfl, rfl⟩) (fun u hu => ?_)
      refine Wk.p (ldv one_int (i := 5) rfl) ?_
      refine Wk.p (ldw ag_bits_Set (i := 0) rfl (enc_size _)) ?_
      refine Wk.x (V := Is (.int .i64 (manyF (ptAt x.ins (endS x (lvO f k)) q) 16 : Int))) hu (sp_call en_bits_Set_Many (fun M w' hh => bits_Set_Many_ct)) ?_
      rintro _ _ hu2 ⟨rfl, rfl⟩
      refine Wk.p maxi ?_
      refine Wk.nil ?_
      rw [needs_cons hu2, needs_none]
      refine Ol.s (stv sz_int (i := 5) rfl rfl) ?_
      refine Ol.keep (.sub (.cons _ (List.Sublist.refl _))) ?_
      refine Ol.nil ?_
      have e2 : manyF (ptAt x.ins (endS x (lvO f k)) q) 16 = (listS (ptAt x.ins (endS x (lvO f k)) q)).length := many_list _
      have e3 : x.ins.length - j = q := by omega
      have e4 : (if ((max (mostTo f k) (manyP x (lvO f k) j) : Nat) : Int) < ((manyF (ptAt x.ins (endS x (lvO f k)) q) 16 : Nat) : Int) then ((manyF (ptAt x.ins (endS x (lvO f k)) q) 16 : Nat) : Int) else ((max (mostTo f k) (manyP x (lvO f k) j) : Nat) : Int)) = ((max (mostTo f k) (manyP x (lvO f k) (j + 1)) : Nat) : Int) := by
        rw [manyP_succ, e3, ← e2]
        omega
      exact congrArg (fun z : Int => [blk g5 (.cells x.cells.toArray 66), blk g3 (.cells #[.slice (some ⟨gI, 0, none⟩) f.blocks.length f.blocks.length, .slice (some ⟨gO, 0, none⟩) f.blocks.length f.blocks.length] 102), blk gO (.cells (memA f.blocks.length (lvO f)) 27), blk gI (.cells (memA f.blocks.length (lvI f)) 27), blk g2 (.cells #[.int .i64 z] 3), blk g1 (.cells f.cells.toArray 38)]) e4.symm
    · rintro L' rfl
      rw [ysP_len]
      refine Cd.region ?_
      refine Ol.p addi ?_
      refine Ol.p mvi ?_
      refine Ol.keep (.sub (.cons _ (List.Sublist.refl _))) ?_
      refine Ol.nil ?_
      refine ⟨f.blocks.length - (k + 1), by omega, k + 1, rfl, by omega, ⟨rfl, rfl, rfl, rfl, rfl, trivial⟩, ?_⟩
      rw [show mostTo f (k + 1) = max (mostTo f k) (manyP x (lvO f k) (x.ins.length + 1)) by simp [mostTo, hx]]
    · rintro _ c L' h
      exact h.elim
  have hk2 : k = f.blocks.length := by
    simp only [decide_eq_false_iff_not] at h; omega
  subst hk2
  refine Cd.exit (id := 0) ?_
  refine Cd.seq ?_
  refine Cd.region ?_
  refine Ol.p (ldv one_int (i := 3) rfl) ?_
  refine Ol.s (stv sz_int (i := 3) rfl rfl) ?_
  refine Ol.nil ?_
  exact Cd.ret ⟨.int .i64 _, retv rfl one_int rfl (i := 3) rfl rfl, [], .nil, rfl, rfl⟩
end
end Go.Proofs.YtbcnejobnmljlaaDoor

/- Dominators by the walk up a tree: plain laws, of any graph with an order of its nodes in which each node but the first has an edge from one ahead of it. -/
namespace Go.Proofs.YtbcnejobnmljlaaDoor
set_option linter.unusedVariables false

/-- A graph of what is reached (R) from 0, places (pl), a node ahead of each (p0). -/
structure Gra where
  R : Nat → Prop
  E : Nat → Nat → Prop
  pl : Nat → Nat
  p0 : Nat → Nat
  r0 : R 0
  pl0 : pl 0 = 0
  inj : ∀ a b, R a → R b → pl a = pl b → a = b
  par : ∀ c, R c → c ≠ 0 → R (p0 c) ∧ E (p0 c) c ∧ pl (p0 c) < pl c
  fwd : ∀ a b, R a → E a b → R b
def Pr (U : Nat → Int) (b : Nat) : Prop := b = 0 ∨ 0 ≤ U b
structure Tr (G : Gra) (U : Nat → Int) : Prop where
  z : U 0 = -1
  up : ∀ b, 0 ≤ U b → G.R b ∧ G.R (U b).toNat ∧ G.pl (U b).toNat < G.pl b ∧ Pr U (U b).toNat
/-- z stands on the way up from x. -/
inductive Upw (U : Nat → Int) (z : Nat) : Nat → Prop
  | refl : Upw U z z
  | up {x : Nat} : 0 ≤ U x → Upw U z (U x).toNat → Upw U z x
section
variable {G : Gra} {U : Nat → Int} {a b c x y z : Nat}
theorem Upw.le (h : Tr G U) (k : Upw U z x) : z = x ∨ G.pl z < G.pl x := by
  induction k with
  | refl => exact .inl rfl
  | up hx _ ih =>
    have := (h.up _ hx).2.2.1
    rcases ih with rfl | ih
    · exact .inr this
    · exact .inr (by omega)
theorem Upw.ple (h : Tr G U) (k : Upw U z x) : G.pl z ≤ G.pl x := by
  rcases k.le h with rfl | k
  · exact Nat.le_refl _
  · omega
theorem Upw.trans (h : Upw U y x) (k : Upw U z y) : Upw U z x := by
  induction h with
  | refl => exact k
  | up hx _ ih => exact .up hx ih
theorem Upw.pr (h : Tr G U) (hp : Pr U x) (k : Upw U z x) : Pr U z := by
  induction k with
  | refl => exact hp
  | up hx _ ih => exact ih (h.up _ hx).2.2.2
theorem Upw.inv (k : Upw U z x) : z = x ∨ (0 ≤ U x ∧ Upw U z (U x).toNat) := by
  cases k with
  | refl => exact .inl rfl
  | up h1 h2 => exact .inr ⟨h1, h2⟩
theorem Upw.total (h : Tr G U) (k : Upw U y x) (j : Upw U z x) (hl : G.pl y ≤ G.pl z) : Upw U y z := by
  induction j with
  | refl => exact k
  | up hx j ih =>
    rcases k.inv with rfl | ⟨_, k⟩
    · have h1 := (h.up _ hx).2.2.1
      have h2 := j.ple h
      omega
    · exact ih k
theorem Pr.reached (h : Tr G U) (hp : Pr U x) : G.R x := by
  rcases hp with rfl | hp
  · exact G.r0
  · exact (h.up x hp).1
theorem Upw.zero (h : Tr G U) : ∀ (n : Nat) (x : Nat), G.pl x < n → Pr U x → Upw U 0 x
  | 0, _, hn, _ => by omega
  | n + 1, x, hn, hp => by
    rcases hp with rfl | hp
    · exact .refl
    · have h1 := h.up x hp
      exact .up hp (Upw.zero h n _ (by omega) h1.2.2.2)
/-- The last one over two. -/
def Meet (U : Nat → Int) (a b m : Nat) : Prop := Upw U m a ∧ Upw U m b ∧ ∀ z, Upw U z a → Upw U z b → Upw U z m
theorem Meet.same : Meet U a a a := ⟨.refl, .refl, fun _ h _ => h⟩
theorem Meet.left (h : Tr G U) {m : Nat} (ha : 0 ≤ U a) (hl : G.pl b < G.pl a) (k : Meet U (U a).toNat b m) : Meet U a b m :=
  ⟨.up ha k.1, k.2.1, fun z h1 h2 => by
    rcases h1.inv with rfl | ⟨_, h1⟩
    · have := h2.ple h; omega
    · exact k.2.2 z h1 h2⟩
theorem Meet.right (h : Tr G U) {m : Nat} (hb : 0 ≤ U b) (hl : G.pl a < G.pl b) (k : Meet U a (U b).toNat m) : Meet U a b m :=
  ⟨k.1, .up hb k.2.1, fun z h1 h2 => by
    rcases h2.inv with rfl | ⟨_, h2⟩
    · have := h1.ple h; omega
    · exact k.2.2 z h1 h2⟩
theorem Meet.eq (h : Tr G U) (ha : Pr U a) {m m' : Nat} (k : Meet U a b m) (k' : Meet U a b m') : m = m' := by
  have h1 := k.2.2 m' k'.1 k'.2.1
  have h2 := k'.2.2 m k.1 k.2.1
  rcases h1.le h with e | e
  · exact e.symm
  · have := h2.ple h; omega
/-- What an evaluation of some blocks ahead comes to: -1: none of them is known. -/
def Eva (U : Nat → Int) (l : List Nat) (r : Int) : Prop :=
  (r = -1 ∧ ∀ a ∈ l, ¬ Pr U a) ∨ ∃ m : Nat, r = (m : Int) ∧ Pr U m ∧ (∃ a ∈ l, Pr U a) ∧ ∀ z, Upw U z m ↔ ∀ a ∈ l, Pr U a → Upw U z a
theorem Eva.nil : Eva U [] (-1) := .inl ⟨rfl, fun a h => (by cases h)⟩
theorem Eva.skip {l : List Nat} {r : Int} (h : Eva U l r) (ha : ¬ Pr U a) : Eva U (l ++ [a]) r := by
  rcases h with ⟨h1, h2⟩ | ⟨m, h1, h2, ⟨q, hq, hq2⟩, h3⟩
  · refine .inl ⟨h1, fun c hc => ?_⟩
    rcases List.mem_append.1 hc with hc | hc
    · exact h2 c hc
    · have : c = a := by simpa using hc
      subst this; exact ha
  · refine .inr ⟨m, h1, h2, ⟨q, by simp [hq], hq2⟩, fun z => ?_⟩
    rw [h3]
    constructor
    · intro h c hc hp
      rcases List.mem_append.1 hc with hc | hc
      · exact h c hc hp
      · have : c = a := by simpa using hc
        subst this; exact absurd hp ha
    · intro h c hc hp
      exact h c (by simp [hc]) hp
theorem Eva.first {l : List Nat} (h : Eva U l (-1)) (ha : Pr U a) : Eva U (l ++ [a]) (a : Int) := by
  rcases h with ⟨_, h2⟩ | ⟨m, h1, _⟩
  · refine .inr ⟨a, rfl, ha, ⟨a, by simp, ha⟩, fun z => ⟨fun h c hc hp => ?_, fun h => h a (by simp) ha⟩⟩
    rcases List.mem_append.1 hc with hc | hc
    · exact absurd hp (h2 c hc)
    · have : c = a := by simpa using hc
      subst this; exact h
  · omega
theorem Eva.meet (ht : Tr G U) {l : List Nat} {q m : Nat} (h : Eva U l (q : Int)) (ha : Pr U a) (hm : Meet U q a m) : Eva U (l ++ [a]) (m : Int) := by
  rcases h with ⟨h1, _⟩ | ⟨q', h1, h2, ⟨p, hp, hp2⟩, h3⟩
  · omega
  · have : q' = q := by omega
    subst this
    refine .inr ⟨m, rfl, hm.1.pr ht h2, ⟨p, by simp [hp], hp2⟩, fun z => ⟨fun h c hc hpc => ?_, fun h => ?_⟩⟩
    · rcases List.mem_append.1 hc with hc | hc
      · exact (h3 z).1 (hm.1.trans h) c hc hpc
      · have : c = a := by simpa using hc
        subst this; exact hm.2.1.trans h
    · exact hm.2.2 z ((h3 z).2 fun c hc hpc => h c (by simp [hc]) hpc) (h a (by simp) ha)
theorem Eva.eq (ht : Tr G U) {l : List Nat} {r r' : Int} (h : Eva U l r) (h' : Eva U l r') : r = r' := by
  rcases h with ⟨h1, h2⟩ | ⟨m, h1, h2, ⟨a, ha, hap⟩, h3⟩ <;> rcases h' with ⟨h1', h2'⟩ | ⟨m', h1', h2', ⟨a', ha', hap'⟩, h3'⟩
  · omega
  · exact absurd hap' (h2 a' ha')
  · exact absurd hap (h2' a ha)
  · have e1 : Upw U m m' := (h3' m).2 ((h3 m).1 .refl)
    have e2 : Upw U m' m := (h3 m').2 ((h3' m').1 .refl)
    rcases e1.le ht with e | e
    · omega
    · have := e2.ple ht; omega
end

/-! ### Dominators -/
/-- A way from 0 to x that avoids d. -/
inductive Av (G : Gra) (d : Nat) : Nat → Prop
  | zero : d ≠ 0 → Av G d 0
  | step {a x : Nat} : Av G d a → G.E a x → x ≠ d → Av G d x
def Dom (G : Gra) (d x : Nat) : Prop := G.R x ∧ ¬ Av G d x
theorem Av.reached {G : Gra} {d x : Nat} (h : Av G d x) : G.R x := by
  induction h with
  | zero _ => exact G.r0
  | step _ h2 _ ih => exact G.fwd _ _ ih h2
theorem Av.ne {G : Gra} {d x : Nat} (h : Av G d x) : x ≠ d := by
  cases h with
  | zero h => exact fun e => h e.symm
  | step _ _ h => exact h
theorem Dom.pred {G : Gra} {d x a : Nat} (h : Dom G d x) (hne : d ≠ x) (ha : G.R a) (he : G.E a x) : Dom G d a :=
  ⟨ha, fun hv => h.2 (.step hv he (fun e => hne e.symm))⟩
/-- A way along the nodes ahead. -/
inductive TP (G : Gra) (b : Nat) : Nat → Prop
  | refl : TP G b b
  | step {x : Nat} : G.R x → x ≠ 0 → TP G b (G.p0 x) → TP G b x
theorem TP.trans {G : Gra} {a b c : Nat} (h : TP G a b) (k : TP G b c) : TP G a c := by
  induction k with
  | refl => exact h
  | step h1 h2 _ ih => exact .step h1 h2 ih
theorem TP.ple {G : Gra} {b x : Nat} (h : TP G b x) : G.pl b ≤ G.pl x := by
  induction h with
  | refl => exact Nat.le_refl _
  | step h1 h2 _ ih => have := (G.par _ h1 h2).2.2; omega
theorem TP.av {G : Gra} {b x d : Nat} (h : TP G b x) (hd : G.pl d < G.pl b) (hv : Av G d b) : Av G d x := by
  induction h with
  | refl => exact hv
  | step h1 h2 hp ih =>
    have h3 := (G.par _ h1 h2)
    have h4 := hp.ple
    exact .step ih h3.2.1 (fun e => by subst e; omega)

/-! ### Going over all blocks -/
def setU (U : Nat → Int) (b : Nat) (r : Int) : Nat → Int := fun x => if x = b then r else U x
/-- While a pass goes on: blocks whose place is below k have been evaluated in it. -/
structure Ps (G : Gra) (pre : Nat → List Nat) (U : Nat → Int) (k : Nat) : Prop where
  tr : Tr G U
  j0 : ∀ c, 0 ≤ U c → ∀ z, (∀ a ∈ pre c, Pr U a → Upw U z a) → G.pl z ≤ G.pl (U c).toNat
  j1 : ∀ c, 0 ≤ U c → k ≤ G.pl c → Upw U (U c).toNat (G.p0 c) ∨ (G.pl (U c).toNat < k ∧ ∀ y, Upw U y (G.p0 c) → G.pl y ≤ G.pl (U c).toNat → Upw U y (U c).toNat)
  j2 : ∀ c, 0 ≤ U c → G.pl c < k → Upw U (U c).toNat (G.p0 c)
  j3 : ∀ x d, Pr U x → Dom G d x → Upw U d x
  j4 : ∀ c, 0 ≤ U c → TP G (U c).toNat c
  j5 : ∀ c, G.R c → G.pl c < k → Pr U c
  j6 : ∀ c, 0 ≤ U c → Pr U (G.p0 c)
  j7 : ∀ c, U c = -1 ∨ 0 ≤ U c
section
variable {G : Gra} {pre : Nat → List Nat} {U : Nat → Int} {k : Nat}
theorem Ps.start (hp : ∀ c, c = 0 ∨ G.pl c ≠ 0 ∨ ¬ G.R c) : Ps G pre (fun _ => -1) 1 := by
  have no : ∀ c : Nat, ¬ (0 ≤ (fun _ : Nat => (-1 : Int)) c) := by intro c h; simp at h
  refine ⟨⟨rfl, fun b h => absurd h (no b)⟩, fun c h => absurd h (no c), fun c h => absurd h (no c), fun c h => absurd h (no c), ?_, fun c h => absurd h (no c), ?_, fun c h => absurd h (no c), fun c => .inl rfl⟩
  · rintro x d (rfl | h) hd
    · by_cases e : d = 0
      · subst e; exact .refl
      · exact absurd (Av.zero e) hd.2
    · exact absurd h (no x)
  · intro c hr hc
    rcases hp c with h | h | h
    · exact .inl h
    · omega
    · exact absurd hr h
/-- A pass is over: the next one begins. -/
theorem Ps.again {n : Nat} (h : Ps G pre U n) (hall : ∀ c, G.R c → G.pl c < n) (hp : ∀ c, c = 0 ∨ G.pl c ≠ 0 ∨ ¬ G.R c) : Ps G pre U 1 := by
  refine ⟨h.tr, h.j0, fun c hc _ => .inl (h.j2 c hc (hall c (h.tr.up c hc).1)), fun c hc hl => ?_, h.j3, h.j4, ?_, h.j6, h.j7⟩
  · rcases hp c with e | e | e
    · subst e; have := h.tr.z; omega
    · omega
    · exact absurd (h.tr.up c hc).1 e
  · intro c hr hc
    rcases hp c with e | e | e
    · exact .inl e
    · omega
    · exact absurd hr e
theorem TP.of_anc (ht : Tr G U) (h4 : ∀ c, 0 ≤ U c → TP G (U c).toNat c) {z x : Nat} (h : Upw U z x) : TP G z x := by
  induction h with
  | refl => exact .refl
  | up hx _ ih => exact ih.trans (h4 _ hx)
/-- What a block is told lies on the way up from what it was. -/
theorem Ps.shrinks {b m : Nat} (h : Ps G pre U k) (hb : G.R b) (hb0 : b ≠ 0) (hk : G.pl b = k) (hpre : G.p0 b ∈ pre b) (hU : 0 ≤ U b) (hm : Eva U (pre b) (m : Int)) : Upw U m (U b).toNat := by
  rcases hm with ⟨h1, _⟩ | ⟨m', h1, h2, _, h3⟩
  · omega
  · have : m' = m := by omega
    subst this
    have hp : Pr U (G.p0 b) := h.j6 b hU
    have hmp : Upw U m' (G.p0 b) := (h3 m').1 .refl _ hpre hp
    have hle : G.pl m' ≤ G.pl (U b).toNat := h.j0 b hU m' fun a ha hpa => (h3 m').1 .refl a ha hpa
    rcases h.j1 b hU (by omega) with h4 | ⟨_, h4⟩
    · exact hmp.total h.tr h4 hle
    · exact h4 m' hmp hle
/-- Nothing is turned: the next one. -/
theorem Ps.keep {b : Nat} (h : Ps G pre U k) (hb : G.R b) (hb0 : b ≠ 0) (hk : G.pl b = k) (hpre : G.p0 b ∈ pre b) (hm : Eva U (pre b) (U b)) : Ps G pre U (k + 1) := by
  have hpar := G.par b hb hb0
  have hpp : Pr U (G.p0 b) := h.j5 _ hpar.1 (by omega)
  have hU : 0 ≤ U b := by
    rcases hm with ⟨_, h2⟩ | ⟨m, h1, _⟩
    · exact absurd hpp (h2 _ hpre)
    · omega
  have hanc : Upw U (U b).toNat (G.p0 b) := by
    rcases hm with ⟨_, h2⟩ | ⟨m, h1, _, _, h3⟩
    · exact absurd hpp (h2 _ hpre)
    · rw [h1, Int.toNat_natCast]
      exact (h3 m).1 .refl _ hpre hpp
  have hone : ∀ c, G.R c → G.pl c = k → c = b := fun c hc e => G.inj c b hc hb (by omega)
  refine ⟨h.tr, h.j0, fun c hc hl => ?_, fun c hc hl => ?_, h.j3, h.j4, fun c hr hl => ?_, h.j6, h.j7⟩
  · exact (h.j1 c hc (by omega)).imp id fun ⟨h1, h2⟩ => ⟨by omega, h2⟩
  · by_cases e : G.pl c = k
    · have := hone c (h.tr.up c hc).1 e
      subst this; exact hanc
    · exact h.j2 c hc (by omega)
  · by_cases e : G.pl c = k
    · have := hone c hr e
      subst this; exact .inr hU
    · exact h.j5 c hr (by omega)
section
variable {b m : Nat}
theorem setU_same (U : Nat → Int) (b : Nat) (r : Int) : setU U b r b = r := by simp [setU]
theorem setU_other {U : Nat → Int} {b x : Nat} {r : Int} (h : x ≠ b) : setU U b r x = U x := by simp [setU, h]
theorem anc_set_of {r : Int} {z x : Nat} (hb : ¬ Upw U b x) (h : Upw U z x) : Upw (setU U b r) z x := by
  induction h with
  | refl => exact .refl
  | @up x hx _ ih =>
    have hne : x ≠ b := fun e => hb (by subst e; exact .refl)
    refine .up (by rw [setU_other hne]; exact hx) ?_
    rw [setU_other hne]
    exact ih fun h => hb (.up hx h)
theorem anc_of_set {r : Int} {z x : Nat} (hb : ¬ Upw U b x) (h : Upw (setU U b r) z x) : Upw U z x := by
  induction h with
  | refl => exact .refl
  | @up x hx _ ih =>
    have hne : x ≠ b := fun e => hb (by subst e; exact .refl)
    rw [setU_other hne] at hx ih
    exact .up hx (ih fun h => hb (.up hx h))
theorem anc_set_upper {r : Int} (ht : Tr G U) {z x : Nat} (hz : Upw U z x) (hbz : Upw U b z) : Upw (setU U b r) z x := by
  induction hz with
  | refl => exact .refl
  | @up x hx hz ih =>
    have hne : x ≠ b := fun e => by
      subst e
      have h1 := hz.ple ht
      have h2 := (ht.up x hx).2.2.1
      have h3 := hbz.ple ht
      omega
    refine .up (by rw [setU_other hne]; exact hx) ?_
    rw [setU_other hne]
    exact ih
/-- What is turned. -/
structure Tn (G : Gra) (U : Nat → Int) (b m : Nat) : Prop where
  lt : G.pl m < G.pl b
  bel : ∀ z, Upw (setU U b m) z b ↔ z = b ∨ Upw U z m
  fwd : ∀ z x, x ≠ b → Pr U x → Upw (setU U b m) z x → Upw U z x
  upper : ∀ z x, Upw U z x → Upw U b x → G.pl b ≤ G.pl z → Upw (setU U b m) z x
  lower : ∀ z x, Upw U b x → Upw U z m → Upw (setU U b m) z x
theorem Tn.mk' (h : Ps G pre U k) (hb : G.R b) (hb0 : b ≠ 0) (hk : G.pl b = k) (hpre : G.p0 b ∈ pre b) (hm : Eva U (pre b) (m : Int)) : Tn G U b m := by
  have hpar := G.par b hb hb0
  have hpp : Pr U (G.p0 b) := h.j5 _ hpar.1 (by omega)
  obtain ⟨hpm, hanc⟩ : Pr U m ∧ Upw U m (G.p0 b) := by
    rcases hm with ⟨_, h2⟩ | ⟨m', h1, h2, _, h3⟩
    · exact absurd hpp (h2 _ hpre)
    · have : m' = m := by omega
      subst this
      exact ⟨h2, (h3 m').1 .refl _ hpre hpp⟩
  have hlt : G.pl m < G.pl b := by have := hanc.ple h.tr; omega
  have hnb : ¬ Upw U b m := fun e => by have := e.ple h.tr; omega
  have hbel : ∀ z, Upw (setU U b m) z b ↔ z = b ∨ Upw U z m := by
    intro z
    constructor
    · intro hz
      rcases hz.inv with e | ⟨_, hz⟩
      · exact .inl e
      · rw [setU_same, Int.toNat_natCast] at hz
        exact .inr (anc_of_set hnb hz)
    · rintro (rfl | hz)
      · exact .refl
      · refine .up (by rw [setU_same]; omega) ?_
        rw [setU_same, Int.toNat_natCast]
        exact anc_set_of hnb hz
  refine ⟨hlt, hbel, ?_, ?_, ?_⟩
  · intro z x hx hpx hz
    rcases h.j7 b with hU | hU
    · have hnb : ¬ Upw U b x := fun e => by
        rcases e.pr h.tr hpx with e | e
        · exact hb0 e
        · omega
      exact anc_of_set hnb hz
    · have hsh := h.shrinks hb hb0 hk hpre hU hm
      clear hx hpx
      induction hz with
      | refl => exact .refl
      | @up x hx _ ih =>
        by_cases e : x = b
        · subst e
          rw [setU_same, Int.toNat_natCast] at ih
          exact .up hU (hsh.trans ih)
        · rw [setU_other e] at hx ih
          exact .up hx ih
  · intro z x hz hbx hl
    exact anc_set_upper h.tr hz (hbx.total h.tr hz hl)
  · intro z x hbx hz
    exact (anc_set_upper h.tr hbx .refl).trans ((hbel z).2 (.inr hz))
theorem Ps.turn (h : Ps G pre U k) (hb : G.R b) (hb0 : b ≠ 0) (hk : G.pl b = k) (hpre : ∀ a, a ∈ pre b ↔ G.E a b) (hm : Eva U (pre b) (m : Int)) : Ps G pre (setU U b m) (k + 1) := by
  have hpar := G.par b hb hb0
  have hp0m : G.p0 b ∈ pre b := (hpre _).2 hpar.2.1
  have hpp : Pr U (G.p0 b) := h.j5 _ hpar.1 (by omega)
  have T := Tn.mk' h hb hb0 hk hp0m hm
  obtain ⟨hpm, hev⟩ : Pr U m ∧ ∀ z, Upw U z m ↔ ∀ a ∈ pre b, Pr U a → Upw U z a := by
    rcases hm with ⟨_, h2⟩ | ⟨m', h1, h2, _, h3⟩
    · exact absurd hpp (h2 _ hp0m)
    · have : m' = m := by omega
      subst this
      exact ⟨h2, h3⟩
  have hanc : Upw U m (G.p0 b) := (hev m).1 .refl _ hp0m hpp
  have hone : ∀ c, G.R c → G.pl c = k → c = b := fun c hc e => G.inj c b hc hb (by omega)
  have hprs : ∀ c, Pr U c → Pr (setU U b m) c := fun c hc => by
    rcases hc with e | e
    · exact .inl e
    · by_cases e2 : c = b
      · subst e2; exact .inr (by rw [setU_same]; omega)
      · exact .inr (by rw [setU_other e2]; exact e)
  have hprb : Pr (setU U b m) b := .inr (by rw [setU_same]; omega)
  have hprx : ∀ c, c ≠ b → Pr (setU U b m) c → Pr U c := fun c hne hc => by
    rcases hc with e | e
    · exact .inl e
    · rw [setU_other hne] at e; exact .inr e
  have htr : Tr G (setU U b m) := by
    refine ⟨by rw [setU_other (fun e => hb0 e.symm)]; exact h.tr.z, fun c hc => ?_⟩
    by_cases e : c = b
    · subst e
      rw [setU_same, Int.toNat_natCast]
      exact ⟨hb, hpm.reached h.tr, T.lt, hprs m hpm⟩
    · rw [setU_other e] at hc ⊢
      have h1 := h.tr.up c hc
      exact ⟨h1.1, h1.2.1, h1.2.2.1, hprs _ h1.2.2.2⟩
  -- a block whose way up does not come by b keeps it
  have hfree : ∀ x z, ¬ Upw U b x → (Upw (setU U b m) z x ↔ Upw U z x) := fun x z hn => ⟨anc_of_set hn, anc_set_of hn⟩
  have hlow : ∀ x, G.pl x < k → ¬ Upw U b x := fun x hl e => by have := e.ple h.tr; omega
  refine ⟨htr, ?_, ?_, ?_, ?_, ?_, ?_, ?_, ?_⟩
  · -- j0
    intro c hc z hz
    by_cases e : c = b
    · subst e
      rw [setU_same, Int.toNat_natCast]
      have : Upw U z m := (hev z).2 fun a ha hpa => by
        by_cases e2 : a = c
        · subst e2
          -- c itself is ahead of it
          rcases h.j7 a with hU | hU
          · rcases hpa with e3 | e3
            · exact absurd e3 hb0
            · omega
          · rcases (T.bel z).1 (hz a ha hprb) with e3 | e3
            · subst e3; exact .refl
            · exact .up hU ((h.shrinks hb hb0 hk hp0m hU hm).trans e3)
        · exact T.fwd z a e2 hpa (hz a ha (hprs a hpa))
      exact this.ple h.tr
    · rw [setU_other e] at hc ⊢
      refine h.j0 c hc z fun a ha hpa => ?_
      by_cases e2 : a = b
      · subst e2
        rcases h.j7 a with hU | hU
        · rcases hpa with e3 | e3
          · exact absurd e3 hb0
          · omega
        · rcases (T.bel z).1 (hz a ha hprb) with e3 | e3
          · subst e3; exact .refl
          · exact .up hU ((h.shrinks hb hb0 hk hp0m hU hm).trans e3)
      · exact T.fwd z a e2 hpa (hz a ha (hprs a hpa))
  · -- j1
    intro c hc hl
    have e : c ≠ b := fun e => by subst e; omega
    rw [setU_other e] at hc ⊢
    have hR := (h.tr.up c hc)
    have hpc := h.j6 c hc
    by_cases hbp : Upw U b (G.p0 c)
    · rcases h.j1 c hc (by omega) with h1 | ⟨h1, h2⟩
      · by_cases hw : G.pl b ≤ G.pl (U c).toNat
        · exact .inl (T.upper _ _ h1 hbp hw)
        · right
          refine ⟨by omega, fun y hy hyl => ?_⟩
          have hyU : Upw U y (G.p0 c) := by
            by_cases e2 : G.p0 c = b
            · rw [e2] at hy ⊢
              have hU : 0 ≤ U b := by
                rw [e2] at hpc
                exact hpc.resolve_left hb0
              rcases (T.bel y).1 hy with e3 | e3
              · subst e3; exact .refl
              · exact .up hU ((h.shrinks hb hb0 hk hp0m hU hm).trans e3)
            · exact T.fwd y _ e2 hpc hy
          have := hyU.total h.tr h1 hyl
          exact (hfree _ _ (hlow _ (by omega))).2 this
      · right
        refine ⟨by omega, fun y hy hyl => ?_⟩
        have hyU : Upw U y (G.p0 c) := by
          by_cases e2 : G.p0 c = b
          · rw [e2] at hy ⊢
            have hU : 0 ≤ U b := by
              rw [e2] at hpc
              exact hpc.resolve_left hb0
            rcases (T.bel y).1 hy with e3 | e3
            · subst e3; exact .refl
            · exact .up hU ((h.shrinks hb hb0 hk hp0m hU hm).trans e3)
          · exact T.fwd y _ e2 hpc hy
        exact (hfree _ _ (hlow _ (by omega))).2 (h2 y hyU hyl)
    · rcases h.j1 c hc (by omega) with h1 | ⟨h1, h2⟩
      · exact .inl ((hfree _ _ hbp).2 h1)
      · right
        refine ⟨by omega, fun y hy hyl => ?_⟩
        exact (hfree _ _ (hlow _ (by omega))).2 (h2 y ((hfree _ _ hbp).1 hy) hyl)
  · -- j2
    intro c hc hl
    by_cases e : c = b
    · subst e
      rw [setU_same, Int.toNat_natCast]
      exact (hfree _ _ (hlow _ (by omega))).2 hanc
    · rw [setU_other e] at hc ⊢
      have h1 := h.tr.up c hc
      have hlt : G.pl c < k := by
        rcases Nat.lt_or_ge (G.pl c) k with h2 | h2
        · exact h2
        · exact absurd (hone c h1.1 (by omega)) e
      have hc0 : c ≠ 0 := fun e => by subst e; have := h.tr.z; omega
      have h3 := G.par c h1.1 hc0
      exact (hfree _ _ (hlow _ (by omega))).2 (h.j2 c hc hlt)
  · -- j3
    have hbd : ∀ d, Dom G d b → d = b ∨ Upw U d m := fun d hd => by
      by_cases e : d = b
      · exact .inl e
      · exact .inr ((hev d).2 fun a ha hpa => h.j3 a d hpa (hd.pred e (hpa.reached h.tr) ((hpre a).1 ha)))
    intro x d hpx hd
    by_cases e : x = b
    · subst e
      exact (T.bel d).2 (hbd d hd)
    · have hpx' := hprx x e hpx
      have hdx := h.j3 x d hpx' hd
      by_cases hbx : Upw U b x
      · rcases Nat.lt_or_ge (G.pl d) (G.pl b) with hl | hl
        · have hdb : Dom G d b := ⟨hb, fun hv => hd.2 (TP.av (TP.of_anc h.tr h.j4 hbx) hl hv)⟩
          rcases hbd d hdb with e2 | e2
          · subst e2; omega
          · exact T.lower d x hbx e2
        · exact T.upper d x hdx hbx hl
      · exact (hfree _ _ hbx).2 hdx
  · -- j4
    intro c hc
    by_cases e : c = b
    · subst e
      rw [setU_same, Int.toNat_natCast]
      exact .step hb hb0 (TP.of_anc h.tr h.j4 hanc)
    · rw [setU_other e] at hc ⊢
      exact h.j4 c hc
  · -- j5
    intro c hr hl
    by_cases e : c = b
    · subst e; exact hprb
    · have hlt : G.pl c < k := by
        rcases Nat.lt_or_ge (G.pl c) k with h2 | h2
        · exact h2
        · exact absurd (hone c hr (by omega)) e
      exact hprs c (h.j5 c hr hlt)
  · -- j6
    intro c hc
    by_cases e : c = b
    · subst e; exact hprs _ hpp
    · rw [setU_other e] at hc
      exact hprs _ (h.j6 c hc)
  · -- j7
    intro c
    by_cases e : c = b
    · subst e; right; rw [setU_same]; omega
    · rw [setU_other e]; exact h.j7 c
end
/-- What is told at last. -/
structure Fin_ (G : Gra) (U : Nat → Int) : Prop where
  tr : Tr G U
  all : ∀ c, G.R c → Pr U c
  dom : ∀ d x, G.R x → (Upw U d x ↔ Dom G d x)
  non : ∀ c, ¬ G.R c → U c = -1
theorem Ps.fin {n : Nat} (h : Ps G pre U n) (hall : ∀ c, G.R c → G.pl c < n) (hpre : ∀ a b, a ∈ pre b ↔ G.E a b) (hfix : ∀ b, G.R b → b ≠ 0 → Eva U (pre b) (U b)) : Fin_ G U := by
  have hpr : ∀ c, G.R c → Pr U c := fun c hc => h.j5 c hc (hall c hc)
  refine ⟨h.tr, hpr, fun d x hx => ⟨fun ha => ⟨hx, fun hv => ?_⟩, fun hd => h.j3 x d (hpr x hx) hd⟩, fun c hc => ?_⟩
  · have key : ∀ x, Av G d x → ¬ Upw U d x := by
      intro x hv
      induction hv with
      | zero h0 =>
        intro ha
        rcases ha.inv with e | ⟨e, _⟩
        · exact h0 e
        · have := h.tr.z; omega
      | @step a x hv he hne ih =>
        intro ha
        have hra := hv.reached
        have hrx := G.fwd _ _ hra he
        rcases ha.inv with e | ⟨e, hd⟩
        · exact hne e.symm
        · have hx0 : x ≠ 0 := fun e2 => by subst e2; have := h.tr.z; omega
          rcases hfix x hrx hx0 with ⟨_, h2⟩ | ⟨m, h1, _, _, h3⟩
          · exact h2 a ((hpre a x).2 he) (hpr a hra)
          · rw [h1, Int.toNat_natCast] at hd
            exact ih ((h3 d).1 hd a ((hpre a x).2 he) (hpr a hra))
    exact key x hv ha
  · rcases h.j7 c with e | e
    · exact e
    · exact absurd (h.tr.up c e).1 hc
theorem Fin_.eq {U' : Nat → Int} (h : Fin_ G U) (h' : Fin_ G U') : ∀ c, U c = U' c := by
  intro c
  by_cases hc : G.R c
  · by_cases h0 : c = 0
    · subst h0; rw [h.tr.z, h'.tr.z]
    · have e1 := (h.all c hc).resolve_left h0
      have e2 := (h'.all c hc).resolve_left h0
      have hx : ∀ z, Upw U z c ↔ Upw U' z c := fun z => by rw [h.dom z c hc, h'.dom z c hc]
      have l1 := (h.tr.up c e1).2.2.1
      have l2 := (h'.tr.up c e2).2.2.1
      have a1 : Upw U' (U c).toNat (U' c).toNat := by
        have : Upw U' (U c).toNat c := (hx _).1 (.up e1 .refl)
        rcases this.inv with e | ⟨_, e⟩
        · rw [e] at l1; omega
        · exact e
      have a2 : Upw U (U' c).toNat (U c).toNat := by
        have : Upw U (U' c).toNat c := (hx _).2 (.up e2 .refl)
        rcases this.inv with e | ⟨_, e⟩
        · rw [e] at l2; omega
        · exact e
      rcases a1.le h'.tr with e | e
      · omega
      · have := a2.ple h.tr; omega
  · rw [h.non c hc, h'.non c hc]
end
theorem TP.rch {G : Gra} {b x : Nat} (h : TP G b x) (hx : G.R x) : G.R b := by
  induction h with
  | refl => exact hx
  | step h1 h2 _ ih => exact ih (G.par _ h1 h2).1
theorem tp_or_av {G : Gra} {d : Nat} : ∀ (n x : Nat), G.pl x < n → G.R x → TP G d x ∨ Av G d x
  | 0, x, h, _ => by omega
  | n + 1, x, h, hx => by
    by_cases h0 : x = 0
    · subst h0
      by_cases e : d = 0
      · subst e; exact .inl .refl
      · exact .inr (.zero e)
    · have hp := G.par x hx h0
      rcases tp_or_av (d := d) n (G.p0 x) (by omega) hp.1 with h1 | h1
      · exact .inl (.step hx h0 h1)
      · by_cases e : x = d
        · subst e; exact .inl .refl
        · exact .inr (.step h1 hp.2.1 e)
theorem Dom.tp {G : Gra} {d x : Nat} (h : Dom G d x) : TP G d x := (tp_or_av _ x (Nat.lt_succ_self _) h.1).resolve_right h.2
theorem Dom.self {G : Gra} {x : Nat} (h : G.R x) : Dom G x x := ⟨h, fun hv => hv.ne rfl⟩
theorem Dom.zero {G : Gra} {x : Nat} (h : G.R x) : Dom G 0 x := ⟨h, fun hv => by
  have : ∀ y, ¬ Av G 0 y := fun y hy => by
    induction hy with
    | zero h => exact h rfl
    | step _ _ _ ih => exact ih
  exact this x hv⟩
theorem Dom.lt {G : Gra} {d x : Nat} (h : Dom G d x) (hne : d ≠ x) : G.pl d < G.pl x := by
  rcases Nat.lt_or_ge (G.pl d) (G.pl x) with h1 | h1
  · exact h1
  · exact absurd (G.inj d x (h.tp.rch h.1) h.1 (by have := h.tp.ple; omega)) hne
theorem Av.via {G : Gra} {a d x : Nat} (h : Av G d x) : Av G a x ∨ Av G d a := by
  induction h with
  | zero h0 =>
    by_cases e : a = 0
    · subst e; exact .inr (.zero h0)
    · exact .inl (.zero e)
  | @step b x hv he hne ih =>
    rcases ih with h1 | h1
    · by_cases e : x = a
      · subst e; exact .inr (.step hv he hne)
      · exact .inl (.step h1 he e)
    · exact .inr h1
theorem Dom.trans {G : Gra} {a d x : Nat} (h : Dom G d a) (k : Dom G a x) : Dom G d x := ⟨k.1, fun hv => hv.via.elim k.2 h.2⟩
def Idm (G : Gra) (x d : Nat) : Prop := Dom G d x ∧ d ≠ x ∧ ∀ c, Dom G c x → c ≠ x → G.pl c ≤ G.pl d
theorem idm_ex {G : Gra} {x : Nat} (hx : G.R x) (h0 : x ≠ 0) : ∃ d, Idm G x d := by
  have : ∀ (n : Nat) (d : Nat), Dom G d x → d ≠ x → G.pl x - G.pl d < n → ∃ d, Idm G x d := by
    intro n
    induction n with
    | zero => intro d _ _ h; omega
    | succ n ih =>
      intro d hd hne hn
      by_cases e : ∃ c, Dom G c x ∧ c ≠ x ∧ G.pl d < G.pl c
      · obtain ⟨c, h1, h2, h3⟩ := e
        have := h1.lt h2
        exact ih c h1 h2 (by omega)
      · refine ⟨d, hd, hne, fun c h1 h2 => ?_⟩
        rcases Nat.lt_or_ge (G.pl d) (G.pl c) with h3 | h3
        · exact absurd ⟨c, h1, h2, h3⟩ e
        · exact h3
  exact this _ 0 (Dom.zero hx) (fun e => h0 e.symm) (Nat.lt_succ_self _)
open Classical in
noncomputable def idU (G : Gra) (x : Nat) : Int := if G.R x ∧ x ≠ 0 then ((Classical.epsilon (Idm G x) : Nat) : Int) else -1
theorem idU_spec {G : Gra} {x : Nat} (h : 0 ≤ idU G x) : G.R x ∧ x ≠ 0 ∧ Idm G x (idU G x).toNat := by
  unfold idU at h ⊢
  by_cases e : G.R x ∧ x ≠ 0
  · rw [if_pos e, Int.toNat_natCast]
    exact ⟨e.1, e.2, Classical.epsilon_spec (idm_ex e.1 e.2)⟩
  · rw [if_neg e] at h; omega
theorem idU_pos {G : Gra} {x : Nat} (h : G.R x) (h0 : x ≠ 0) : 0 ≤ idU G x := by
  unfold idU
  rw [if_pos ⟨h, h0⟩]
  omega
theorem idU_fin (G : Gra) : Fin_ G (idU G) := by
  have hpr : ∀ c, G.R c → Pr (idU G) c := fun c hc => by
    by_cases h0 : c = 0
    · exact .inl h0
    · exact .inr (idU_pos hc h0)
  have htr : Tr G (idU G) := by
    refine ⟨by unfold idU; rw [if_neg (fun h => h.2 rfl)], fun b hb => ?_⟩
    obtain ⟨h1, h2, h3⟩ := idU_spec hb
    have h4 := h3.1.tp.rch h1
    exact ⟨h1, h4, h3.1.lt h3.2.1, hpr _ h4⟩
  refine ⟨htr, hpr, fun d x hx => ⟨fun h => ?_, ?_⟩, fun c hc => by unfold idU; rw [if_neg (fun h => hc h.1)]⟩
  · induction h with
    | refl => exact .self hx
    | up h1 _ ih => exact (ih (htr.up _ h1).2.1).trans (idU_spec h1).2.2.1
  · have : ∀ (n x : Nat), G.pl x < n → G.R x → Dom G d x → Upw (idU G) d x := by
      intro n
      induction n with
      | zero => intro x h; omega
      | succ n ih =>
        intro x hn hx hd
        by_cases e : d = x
        · subst e; exact .refl
        · have h0 : x ≠ 0 := fun e0 => by subst e0; exact hd.2 (.zero e)
          have hu := idU_pos hx h0
          obtain ⟨_, _, h3⟩ := idU_spec hu
          have hr := h3.1.tp.rch hx
          have hlt := h3.1.lt h3.2.1
          refine .up hu (ih _ (by omega) hr ⟨hr, fun hv => ?_⟩)
          have hle := h3.2.2 d hd e
          by_cases e2 : d = (idU G x).toNat
          · exact hv.ne e2.symm
          · refine hd.2 (h3.1.tp.av ?_ hv)
            rcases Nat.lt_or_ge (G.pl d) (G.pl (idU G x).toNat) with h5 | h5
            · exact h5
            · exact absurd (G.inj _ _ (hd.tp.rch hx) hr (by omega)) e2
    exact this _ x (Nat.lt_succ_self _) hx
end Go.Proofs.YtbcnejobnmljlaaDoor

/- Dominators of a function's blocks: the plain law at the order of blocks. -/
namespace Go.Proofs.YtbcnejobnmljlaaDoor
set_option linter.unusedVariables false
set_option maxRecDepth 10000
open Go Go.RowKit

theorem fold_par {ts : List Tm} {fuel : Nat} (ih : ∀ (b : Nat) (st : Dst), ∃ nl, (dfs ts fuel b st).2 = nl ++ st.2 ∧ ∀ x ∈ nl, x = b ∨ ∃ p, (x : Int) ∈ toAt ts p ∧ After (dfs ts fuel b st).2 p x) :
    ∀ (l : List Int) (st : Dst), (∀ t ∈ l, 0 ≤ t) → ∃ nl, (l.foldl (fun st t => dfs ts fuel t.toNat st) st).2 = nl ++ st.2 ∧ ∀ x ∈ nl, (x : Int) ∈ l ∨ ∃ p, (x : Int) ∈ toAt ts p ∧ After (l.foldl (fun st t => dfs ts fuel t.toNat st) st).2 p x
  | [], st, _ => ⟨[], rfl, fun x h => (by cases h)⟩
  | t :: l, st, h0 => by
    obtain ⟨n1, e1, h1⟩ := ih t.toNat st
    obtain ⟨n2, e2, h2⟩ := fold_par ih l (dfs ts fuel t.toNat st) (fun t ht => h0 t (by simp [ht]))
    have ht := h0 t (by simp)
    refine ⟨n2 ++ n1, by rw [List.foldl_cons, e2, e1]; simp, fun x hx => ?_⟩
    rw [List.foldl_cons]
    rcases List.mem_append.1 hx with hx | hx
    · rcases h2 x hx with h3 | h3
      · exact .inl (by simp [h3])
      · exact .inr h3
    · rcases h1 x hx with rfl | ⟨p, h3, h4⟩
      · exact .inl (by simp; omega)
      · exact .inr ⟨p, h3, by rw [e2]; exact h4.more n2⟩
theorem dfs_par {ts : List Tm} (hc : closed ts = true) : ∀ (fuel b : Nat) (st : Dst), ∃ nl, (dfs ts fuel b st).2 = nl ++ st.2 ∧ ∀ x ∈ nl, x = b ∨ ∃ p, (x : Int) ∈ toAt ts p ∧ After (dfs ts fuel b st).2 p x := by
  intro fuel
  induction fuel with
  | zero => exact fun b st => ⟨[], rfl, fun x h => (by cases h)⟩
  | succ fuel ih =>
    intro b st
    cases hs : st.1.testBit b with
    | true =>
      have e : dfs ts (fuel + 1) b st = st := by simp only [dfs, hs, cond_true]
      rw [e]
      exact ⟨[], rfl, fun x h => (by cases h)⟩
    | false =>
      obtain ⟨nl, e, h⟩ := fold_par ih (toAt ts b) (withL st.1 [(b : Int)], st.2) (fun t ht => (toAt_lt hc ht).1)
      have e2 : (dfs ts (fuel + 1) b st).2 = b :: ((toAt ts b).foldl (fun st t => dfs ts fuel t.toNat st) (withL st.1 [(b : Int)], st.2)).2 := by simp only [dfs, hs, cond_false]
      rw [e2]
      refine ⟨b :: nl, by rw [e]; rfl, fun x hx => ?_⟩
      rcases List.mem_cons.1 hx with rfl | hx
      · exact .inl rfl
      · right
        rcases h x hx with h1 | ⟨p, h1, h2⟩
        · exact ⟨b, h1, [], _, rfl, by rw [e]; exact List.mem_append_left _ hx⟩
        · exact ⟨p, h1, h2.more [b]⟩
theorem After.mem {l : List Nat} {x y : Nat} (h : After l x y) : x ∈ l ∧ y ∈ l := by
  obtain ⟨p, q, rfl, hy⟩ := h
  exact ⟨by simp, by simp [hy]⟩
theorem order_par {ts : List Tm} (hc : closed ts = true) {c : Nat} (h : c ∈ orderF ts) (h0 : c ≠ 0) : ∃ p, (c : Int) ∈ toAt ts p ∧ After (orderF ts) p c := by
  obtain ⟨nl, e, hp⟩ := dfs_par hc (ts.length + 1) 0 (0, [])
  have e2 : orderF ts = (dfs ts (ts.length + 1) 0 (0, [])).2 := by unfold orderF; rw [hc, cond_true]
  rw [e2, e] at h
  rcases hp c (by simpa using h) with h1 | h1
  · exact absurd h1 h0
  · rw [e2]; exact h1
theorem order_edge' {ts : List Tm} (hc : closed ts = true) {a y : Nat} (ha : a ∈ orderF ts) (hy : (y : Int) ∈ toAt ts a) : y ∈ orderF ts := (order_edge hc ha hy).1
theorem After.idx {l : List Nat} (hn : l.Nodup) {x y : Nat} (h : After l x y) : l.idxOf x < l.idxOf y := by
  obtain ⟨p, q, rfl, hy⟩ := h
  rw [List.nodup_append] at hn
  obtain ⟨_, h2, h3⟩ := hn
  rw [List.nodup_cons] at h2
  have hx : x ∉ p := fun hx => h3 x hx x (by simp) rfl
  have hyp : y ∉ p := fun hx => h3 y hx y (by simp [hy]) rfl
  have hne : y ≠ x := fun e => h2.1 (by subst e; exact hy)
  rw [List.idxOf_append, List.idxOf_append, if_neg hx, if_neg hyp, List.idxOf_cons, List.idxOf_cons]
  have e : (x == y) = false := by simpa using fun e : x = y => hne e.symm
  rw [e]
  simp
noncomputable def parF (ts : List Tm) (c : Nat) : Nat := Classical.epsilon fun p => (c : Int) ∈ toAt ts p ∧ After (orderF ts) p c
theorem parF_spec {ts : List Tm} (hc : closed ts = true) {c : Nat} (h : c ∈ orderF ts) (h0 : c ≠ 0) : (c : Int) ∈ toAt ts (parF ts c) ∧ After (orderF ts) (parF ts c) c := Classical.epsilon_spec (order_par hc h h0)
theorem order_zero {ts : List Tm} (hc : closed ts = true) : 0 ∈ orderF ts := by
  obtain ⟨t, h⟩ := order_head hc
  rw [h]; simp
noncomputable def gra (ts : List Tm) (hc : closed ts = true) : Gra where
  R x := x ∈ orderF ts
  E a b := (b : Int) ∈ toAt ts a
  pl x := (orderF ts).idxOf x
  p0 := parF ts
  r0 := order_zero hc
  pl0 := by
    obtain ⟨t, h⟩ := order_head hc
    rw [h]; simp
  inj a b ha hb h := by
    have h1 := List.getElem_idxOf (List.idxOf_lt_length_of_mem ha)
    have h2 := List.getElem_idxOf (List.idxOf_lt_length_of_mem hb)
    rw [← h1, ← h2]
    simp only [h]
  par c h h0 := by
    obtain ⟨h1, h2⟩ := parF_spec hc h h0
    exact ⟨h2.mem.1, h1, h2.idx (order_nodup hc)⟩
  fwd a b ha he := order_edge' hc ha he
theorem gra_pos {ts : List Tm} (hc : closed ts = true) (c : Nat) : c = 0 ∨ (gra ts hc).pl c ≠ 0 ∨ ¬ (gra ts hc).R c := by
  by_cases h : c ∈ orderF ts
  · by_cases h0 : c = 0
    · exact .inl h0
    · right; left
      intro e
      exact h0 ((gra ts hc).inj c 0 h (order_zero hc) (by rw [e, (gra ts hc).pl0]))
  · exact .inr (.inr h)
/-- The blocks ahead of one, one by one edge. -/
def preF (ts : List Tm) (b : Nat) : List Nat := ((edges ts).filter fun e => decide (e.to = (b : Int))).map fun e => e.src.toNat
theorem mem_preF {ts : List Tm} {a b : Nat} : a ∈ preF ts b ↔ (b : Int) ∈ toAt ts a := by
  unfold preF
  simp only [List.mem_map, List.mem_filter, decide_eq_true_eq]
  constructor
  · rintro ⟨e, ⟨he, h1⟩, rfl⟩
    obtain ⟨k, j, t, hk, hj, h2, h3⟩ := mem_edges.1 he
    rw [h2, Int.toNat_natCast, toAt_some hk, ← h1]
    exact List.mem_of_getElem? hj
  · intro h
    unfold toAt at h
    cases ht : ts[a]? with
    | none => rw [ht] at h; cases h
    | some t =>
      rw [ht] at h
      obtain ⟨j, hj⟩ := List.mem_iff_getElem?.1 h
      exact ⟨⟨(a : Int), (j : Int), (b : Int)⟩, ⟨mem_edges.2 ⟨a, j, t, ht, hj, rfl, rfl⟩, rfl⟩, by simp⟩
/-- What each block is told to be below, as a list. -/
def asU (ul : List Int) : Nat → Int := fun x => ul.getD x (-1)
theorem asU_set {ul : List Int} {b : Nat} {r : Int} (h : b < ul.length) : asU (ul.set b r) = setU (asU ul) b r := by
  funext x
  unfold asU setU
  rw [List.getD_eq_getElem?_getD, List.getElem?_set]
  by_cases e : b = x
  · subst e; simp [h]
  · rw [if_neg e, if_neg (fun e2 => e e2.symm), ← List.getD_eq_getElem?_getD]
theorem asU_get {ul : List Int} {b : Nat} (h : b < ul.length) : ul[b]? = some (asU ul b) := by
  unfold asU
  rw [List.getD_eq_getElem?_getD, List.getElem?_eq_getElem h]; rfl
theorem asU_rep (n : Nat) : asU (List.replicate n (-1)) = fun _ => -1 := by
  funext x
  unfold asU
  rw [List.getD_eq_getElem?_getD, List.getElem?_replicate]
  split <;> rfl
/-- What is left to be lowered. -/
def costU (pl : Nat → Nat) (n : Nat) (v : Int) : Nat := if v < 0 then n else pl v.toNat
def muU (pl : Nat → Nat) (n : Nat) (ul : List Int) : Nat := (ul.map (costU pl n)).sum
theorem sum_set : ∀ (l : List Nat) (i x : Nat) (h : i < l.length), (l.set i x).sum + l[i] = l.sum + x
  | [], i, x, h => by simp at h
  | a :: l, 0, x, h => by simp; omega
  | a :: l, i + 1, x, h => by
    have := sum_set l i x (by simpa using h)
    simp at this ⊢; omega
theorem muU_set {pl : Nat → Nat} {n b m : Nat} {ul : List Int} (h : b < ul.length) (hlt : pl m < costU pl n (asU ul b)) : muU pl n (ul.set b (m : Int)) < muU pl n ul := by
  unfold muU
  rw [List.map_set]
  have h1 := sum_set (ul.map (costU pl n)) b (costU pl n (m : Int)) (by simpa using h)
  have h2 : costU pl n (m : Int) = pl m := by unfold costU; rw [if_neg (by omega)]; simp
  have h3 : (ul.map (costU pl n))[b]'(by simpa using h) = costU pl n (asU ul b) := by
    rw [List.getElem_map]
    congr 1
    have := asU_get h
    rw [List.getElem?_eq_getElem h] at this
    exact Option.some.inj this
  omega
theorem order_lt {ts : List Tm} (hc : closed ts = true) {x : Nat} (h : x ∈ orderF ts) : x < ts.length := by
  obtain ⟨r, nw, _, e, p, _⟩ := order_spec hc
  rw [e] at h
  exact (p.new x h).2.2
theorem Ps.lower {ts : List Tm} {hc : closed ts = true} {ul : List Int} {k b m : Nat} (h : Ps (gra ts hc) (preF ts) (asU ul) k) (hb : b ∈ orderF ts) (hb0 : b ≠ 0) (hk : (orderF ts).idxOf b = k) (hm : Eva (asU ul) (preF ts b) (m : Int)) (hne : (m : Int) ≠ asU ul b) (hl : b < ul.length) :
    muU ((orderF ts).idxOf ·) (orderF ts).length (ul.set b (m : Int)) < muU ((orderF ts).idxOf ·) (orderF ts).length ul := by
  have hpar := (gra ts hc).par b hb hb0
  refine muU_set hl ?_
  have hmR : m ∈ orderF ts := by
    rcases hm with ⟨h1, _⟩ | ⟨m', h1, h2, _⟩
    · omega
    · have : m' = m := by omega
      subst this
      exact h2.reached h.tr
  unfold costU
  rcases h.j7 b with e | e
  · rw [if_pos (by omega)]
    exact List.idxOf_lt_length_of_mem hmR
  · rw [if_neg (by omega)]
    have h1 := h.shrinks hb hb0 hk (mem_preF.2 hpar.2.1) e hm
    rcases h1.le h.tr with h2 | h2
    · omega
    · exact h2
/-- The immediate dominators. -/
def DomU (ts : List Tm) (ul : List Int) : Prop := ul.length = ts.length ∧ ∀ hc : closed ts = true, Fin_ (gra ts hc) (asU ul)
theorem DomU.eq {ts : List Tm} (hc : closed ts = true) {a b : List Int} (ha : DomU ts a) (hb : DomU ts b) : a = b := by
  have h := (ha.2 hc).eq (hb.2 hc)
  apply List.ext_getElem (by rw [ha.1, hb.1])
  intro i h1 h2
  have e1 := asU_get h1
  have e2 := asU_get h2
  rw [List.getElem?_eq_getElem h1] at e1
  rw [List.getElem?_eq_getElem h2] at e2
  have e1 := Option.some.inj e1
  have e2 := Option.some.inj e2
  rw [e1, e2, h i]
/-- The immediate dominators, told. -/
noncomputable def domL (ts : List Tm) : List Int := Classical.epsilon (DomU ts)
theorem DomU.eqL {ts : List Tm} (hc : closed ts = true) {a : List Int} (ha : DomU ts a) : a = domL ts := ha.eq hc (Classical.epsilon_spec ⟨a, ha⟩)
theorem domL_spec {ts : List Tm} {a : List Int} (ha : DomU ts a) : DomU ts (domL ts) := Classical.epsilon_spec ⟨a, ha⟩
/-- Where each block stands among the first k of the order; -1: nowhere. -/
def plTo (ts : List Tm) (k x : Nat) : Int := if x ∈ (orderF ts).take k then ((orderF ts).idxOf x : Int) else -1
def plL (ts : List Tm) : List Int := (List.range ts.length).map (plTo ts (orderF ts).length)
theorem plL_len (ts : List Tm) : (plL ts).length = ts.length := by simp [plL]
theorem plL_get {ts : List Tm} {x : Nat} (h : x < ts.length) : (plL ts)[x]? = some (if x ∈ orderF ts then ((orderF ts).idxOf x : Int) else -1) := by
  unfold plL plTo
  rw [List.getElem?_map, List.getElem?_range h, List.take_length]
  rfl
theorem plTo_zero (ts : List Tm) (x : Nat) : plTo ts 0 x = -1 := by simp [plTo]
theorem plTo_succ {ts : List Tm} (hc : closed ts = true) {k b : Nat} (h : (orderF ts)[k]? = some b) (x : Nat) : plTo ts (k + 1) x = if x = b then (k : Int) else plTo ts k x := by
  unfold plTo
  have hk := (List.getElem?_eq_some_iff.1 h).1
  rw [take_snoc_ h]
  by_cases e : x = b
  · subst e
    have : (orderF ts).idxOf x = k := by
      have h2 := (List.getElem?_eq_some_iff.1 h).2
      have hm : x ∈ orderF ts := List.mem_of_getElem? h
      have h1 := List.getElem_idxOf (List.idxOf_lt_length_of_mem hm)
      have h3 : (orderF ts)[(orderF ts).idxOf x]? = (orderF ts)[k]? := by
        rw [h, List.getElem?_eq_getElem (List.idxOf_lt_length_of_mem hm), h1]
      exact (List.getElem?_inj (List.idxOf_lt_length_of_mem hm) (order_nodup hc)).1 h3
    simp [this]
  · simp [e]
/-- Up from a block. -/
def chF (U : Nat → Int) : Nat → Nat → List Nat
  | 0, _ => []
  | n + 1, b => b :: (if U b < 0 then [] else chF U n (U b).toNat)
theorem mem_chF {G : Gra} {U : Nat → Int} (ht : Tr G U) : ∀ (n b z : Nat), G.pl b < n → (z ∈ chF U n b ↔ Upw U z b)
  | 0, b, z, h => by omega
  | n + 1, b, z, h => by
    unfold chF
    by_cases hu : U b < 0
    · rw [if_pos hu]
      constructor
      · intro h1
        have : z = b := by simpa using h1
        subst this; exact .refl
      · intro h1
        rcases h1.inv with e | ⟨e, _⟩
        · simp [e]
        · omega
    · rw [if_neg hu]
      have h1 := (ht.up b (by omega)).2.2.1
      rw [List.mem_cons, mem_chF ht n (U b).toNat z (by omega)]
      constructor
      · rintro (e | e)
        · subst e; exact .refl
        · exact .up (by omega) e
      · intro h2
        rcases h2.inv with e | ⟨_, e⟩
        · exact .inl e
        · exact .inr e
theorem chF_len (U : Nat → Int) : ∀ (n b : Nat), (chF U n b).length ≤ n
  | 0, _ => by simp [chF]
  | n + 1, b => by
    unfold chF
    have := chF_len U n (U b).toNat
    split <;> simp; omega
/-- Is it a block that is reached? -/
def inP (P : List Int) (b : Int) : Bool := decide (0 ≤ b) && decide (b < (P.length : Int)) && decide (0 ≤ P.getD b.toNat (-1))
theorem inP_iff {ts : List Tm} (hc : closed ts = true) {b : Int} : inP (plL ts) b = true ↔ ∃ x : Nat, b = (x : Int) ∧ x ∈ orderF ts := by
  unfold inP
  rw [plL_len]
  constructor
  · intro h
    simp only [Bool.and_eq_true, decide_eq_true_eq] at h
    obtain ⟨⟨h1, h2⟩, h3⟩ := h
    refine ⟨b.toNat, by omega, ?_⟩
    rw [List.getD_eq_getElem?_getD, plL_get (by omega)] at h3
    by_cases hm : b.toNat ∈ orderF ts
    · exact hm
    · simp [hm] at h3
  · rintro ⟨x, rfl, hx⟩
    have hl := order_lt hc hx
    simp only [Bool.and_eq_true, decide_eq_true_eq, Int.toNat_natCast]
    refine ⟨⟨by omega, by omega⟩, ?_⟩
    rw [List.getD_eq_getElem?_getD, plL_get hl, if_pos hx]
    simp
/-- The blocks that dominate one, itself first; none of one that is not reached. -/
noncomputable def chainL (ts : List Tm) (b : Int) : List Nat := bif closed ts && inP (plL ts) b then chF (asU (domL ts)) (ts.length + 1) b.toNat else []
noncomputable def overF (ts : List Tm) (a b : Int) : Bool := (chainL ts b).any fun d => decide ((d : Int) = a)
theorem order_len_le {ts : List Tm} (hc : closed ts = true) : (orderF ts).length ≤ ts.length := by
  have := nodup_le (orderF ts) (List.range ts.length) (order_nodup hc) fun x hx => by simpa using order_lt hc hx
  simpa using this
theorem overF_iff {ts : List Tm} (hc : closed ts = true) (hd : DomU ts (domL ts)) {a b : Int} : overF ts a b = true ↔ ∃ x y : Nat, a = (x : Int) ∧ b = (y : Int) ∧ y ∈ orderF ts ∧ Dom (gra ts hc) x y := by
  have F := hd.2 hc
  unfold overF chainL
  rw [hc, Bool.true_and, List.any_eq_true]
  constructor
  · rintro ⟨d, hd1, hd2⟩
    have e : (d : Int) = a := by simpa using hd2
    cases hp : inP (plL ts) b with
    | false => rw [hp] at hd1; cases hd1
    | true =>
      rw [hp, cond_true] at hd1
      obtain ⟨y, rfl, hy⟩ := (inP_iff hc).1 hp
      rw [Int.toNat_natCast] at hd1
      have hl : (gra ts hc).pl y < ts.length + 1 := by
        have h1 : (orderF ts).idxOf y < (orderF ts).length := List.idxOf_lt_length_of_mem hy
        have h2 := order_len_le hc
        show (orderF ts).idxOf y < _
        omega
      exact ⟨d, y, e.symm, rfl, hy, (F.dom d y hy).1 ((mem_chF F.tr _ _ _ hl).1 hd1)⟩
  · rintro ⟨x, y, rfl, rfl, hy, hxy⟩
    have hp : inP (plL ts) (y : Int) = true := (inP_iff hc).2 ⟨y, rfl, hy⟩
    refine ⟨x, ?_, by simp⟩
    rw [hp, cond_true, Int.toNat_natCast]
    have hl : (gra ts hc).pl y < ts.length + 1 := by
      have h1 : (orderF ts).idxOf y < (orderF ts).length := List.idxOf_lt_length_of_mem hy
      have h2 := order_len_le hc
      show (orderF ts).idxOf y < _
      omega
    exact (mem_chF F.tr _ _ _ hl).2 ((F.dom x y hy).2 hxy)
/-- The blocks ahead of one, by the first k edges. -/
def preTo (ts : List Tm) (k x : Nat) : List Int := ((((edges ts).take k).filter fun e => decide (e.to = (x : Int))).map Ed.src)
theorem preTo_zero (ts : List Tm) (x : Nat) : preTo ts 0 x = [] := by simp [preTo]
theorem preTo_succ {ts : List Tm} {k : Nat} {e : Ed} (h : (edges ts)[k]? = some e) (x : Nat) : preTo ts (k + 1) x = if e.to = (x : Int) then preTo ts k x ++ [e.src] else preTo ts k x := by
  unfold preTo
  rw [take_snoc_ h, List.filter_append, List.map_append]
  by_cases he : e.to = (x : Int) <;> simp [he]
theorem preTo_all (ts : List Tm) (x : Nat) : preTo ts (edges ts).length x = (preF ts x).map fun n : Nat => (n : Int) := by
  unfold preTo preF
  rw [List.take_length, List.map_map]
  apply List.map_congr_left
  intro e he
  have := (mem_edges.1 (List.mem_filter.1 he).1)
  obtain ⟨k, j, t, _, _, h2, _⟩ := this
  simp [h2]
theorem preTo_len (ts : List Tm) (k x : Nat) : (preTo ts k x).length ≤ k := by
  unfold preTo
  rw [List.length_map]
  exact Nat.le_trans (List.length_filter_le _ _) (by simp; omega)
theorem domL_ex {ts : List Tm} (hc : closed ts = true) : DomU ts (domL ts) := by
  refine domL_spec (a := (List.range ts.length).map (idU (gra ts hc))) ⟨by simp, fun hc' => ?_⟩
  have e : asU ((List.range ts.length).map (idU (gra ts hc))) = idU (gra ts hc) := by
    funext x
    unfold asU
    rw [List.getD_eq_getElem?_getD, List.getElem?_map]
    rcases Nat.lt_or_ge x ts.length with h | h
    · rw [List.getElem?_range h]; rfl
    · rw [List.getElem?_eq_none (by simpa using h)]
      show (-1 : Int) = _
      unfold idU
      rw [if_neg (fun h2 => by have := order_lt hc h2.1; omega)]
  rw [e]
  exact idU_fin _
end Go.Proofs.YtbcnejobnmljlaaDoor

/- Dominators told by what is reached without a block; a test of them: plain laws. -/
namespace Go.Proofs.YtbcnejobnmljlaaDoor
set_option linter.unusedVariables false
set_option maxRecDepth 10000
open Go Go.RowKit

/-- What is reached, by blocks that are open alone. -/
theorem mem_reach_op {ts : List Tm} {op s : Nat} (h : Sub s op) (hop : Sm op) (K : Nat → Prop) (h0 : ∀ a, s.testBit a = true → K a) (hs : ∀ b c : Nat, K b → (c : Int) ∈ toAt ts b → op.testBit c = true → K c)
    (hK : ∀ (Q : Nat → Prop), (∀ a, s.testBit a = true → Q a) → (∀ b c : Nat, Q b → (c : Int) ∈ toAt ts b → op.testBit c = true → Q c) → ∀ i, K i → Q i) (i : Nat) : (reachS ts op s).testBit i = true ↔ K i := by
  constructor
  · intro hi
    have : ∀ k i, (iterF (stepS ts op) k s).testBit i = true → K i := by
      intro k
      induction k with
      | zero => intro i hi; exact h0 i hi
      | succ k ih =>
        intro i hi
        have hi : (stepS ts op (iterF (stepS ts op) k s)).testBit i = true := hi
        rw [mem_step ((iterF_sub h k).sm hop)] at hi
        rcases hi.2 with h1 | ⟨_, b, hb, hc⟩
        · exact ih i h1
        · exact hs b i (ih b hb) hc hi.1
    exact this _ i hi
  · refine hK (fun i => (reachS ts op s).testBit i = true) (fun a ha => reach_sub_ h a ha) (fun b c hb hc hopc => ?_) i
    have hsm : Sm (reachS ts op s) := Sub.sm (iterF_sub (ts := ts) h 1025) hop
    show (reachS ts op s).testBit c = true
    rw [← reach_fix h hop, mem_step hsm]
    refine ⟨hopc, .inr ⟨?_, b, hb, hc⟩⟩
    rcases Nat.lt_or_ge c 1024 with hl | hl
    · exact hl
    · rw [hop c hl] at hopc; cases hopc
/-- What Reached tells of block 0, one block shut: where a way goes that avoids it. -/
theorem mem_left {ts : List Tm} (hc : closed ts = true) {a : Nat} (ha : a < ts.length) (i : Nat) : i ∈ reachedF ts [0] [(a : Int)] ↔ Av (gra ts hc) a i := by
  obtain ⟨hn0, hl⟩ := closed_le hc
  have hoka : okN (a : Int) = true := by rw [okN_iff]; omega
  have hbit : ∀ i : Nat, (lessL (allS ts.length) [(a : Int)]).testBit i = true ↔ i < ts.length ∧ i ≠ a := fun i => by
    rw [testBit_lessL, testBit_allS _ _ (by omega)]
    simp only [Bool.and_eq_true, decide_eq_true_eq, Bool.not_eq_true', Bool.and_eq_false_iff, List.contains_eq_mem, decide_eq_false_iff_not, List.mem_cons, List.not_mem_nil, or_false]
    constructor
    · rintro ⟨h1, h2⟩
      refine ⟨h1, ?_⟩
      rintro rfl
      rcases h2 with h2 | h2
      · rw [hoka] at h2; cases h2
      · exact h2 rfl
    · rintro ⟨h1, h2⟩
      exact ⟨h1, .inr (by omega)⟩
  have hs0 : ∀ i : Nat, (lessL (allS ts.length) [(a : Int)] &&& ofL [0]).testBit i = true ↔ i = 0 ∧ a ≠ 0 := fun i => by
    rw [Nat.testBit_and, Bool.and_eq_true, hbit, testBit_ofL]
    simp only [Bool.and_eq_true, List.contains_eq_mem, decide_eq_true_eq, List.mem_cons, List.not_mem_nil, or_false]
    constructor
    · rintro ⟨⟨_, h2⟩, _, h4⟩
      have : i = 0 := by omega
      subst this
      exact ⟨rfl, fun e => h2 e.symm⟩
    · rintro ⟨rfl, h2⟩
      exact ⟨⟨hn0, fun e => h2 e.symm⟩, by decide, rfl⟩
  have hsub : Sub (lessL (allS ts.length) [(a : Int)] &&& ofL [0]) (lessL (allS ts.length) [(a : Int)]) := fun i hi => by
    rw [Nat.testBit_and, Bool.and_eq_true] at hi
    exact hi.1
  have hop : Sm (lessL (allS ts.length) [(a : Int)]) := fun i hi => by
    cases hb : (lessL (allS ts.length) [(a : Int)]).testBit i with
    | false => rfl
    | true => have := (hbit i).1 hb; omega
  have key := mem_reach_op (ts := ts) hsub hop (Av (gra ts hc) a) (fun x hx => by
      obtain ⟨rfl, h2⟩ := (hs0 x).1 hx
      exact .zero h2) (fun b c hb he ho => .step hb he ((hbit c).1 ho).2) (fun Q h0 hs i hi => by
      induction hi with
      | zero h2 => exact h0 0 ((hs0 0).2 ⟨rfl, h2⟩)
      | step hv he hne ih => exact hs _ _ ih he ((hbit _).2 ⟨by have := (toAt_lt hc he).2.1; omega, hne⟩)) i
  unfold reachedF
  rw [hc, cond_true, mem_listS, key]
  constructor
  · exact fun h => h.2
  · intro h
    refine ⟨?_, h⟩
    have hm : i ∈ orderF ts := h.reached
    have := order_lt hc hm
    omega
theorem dom_left {ts : List Tm} (hc : closed ts = true) {a b : Nat} (ha : a < ts.length) : Dom (gra ts hc) a b ↔ b ∈ orderF ts ∧ b ∉ reachedF ts [0] [(a : Int)] := by
  rw [mem_left hc ha]
  exact Iff.rfl
theorem dom_lt {ts : List Tm} (hc : closed ts = true) {a b : Nat} (h : Dom (gra ts hc) a b) : a < ts.length := by
  refine Classical.byContradiction fun hn => ?_
  have hpos := (closed_le hc).1
  refine h.2 ?_
  have hr := (order_mem hc b).1 h.1
  induction hr with
  | refl => exact .zero (by omega)
  | step hr he ih =>
    have hb : (gra ts hc).R _ := (order_mem hc _).2 hr
    exact .step (ih ⟨hb, fun hv => h.2 (.step hv he (by have := (toAt_lt hc he).2.1; omega))⟩) he (by have := (toAt_lt hc he).2.1; omega)
/-- Does a way of so many steps avoid d? -/
def avB (ts : List Tm) (d : Nat) : Nat → Nat → Bool
  | 0, x => decide (x = 0) && !decide (d = 0)
  | k + 1, x => avB ts d k x || (!decide (x = d) && (preF ts x).any fun a => avB ts d k a)
theorem avB_sound {ts : List Tm} (hc : closed ts = true) {d : Nat} : ∀ (k x : Nat), avB ts d k x = true → Av (gra ts hc) d x
  | 0, x, h => by
    simp only [avB, Bool.and_eq_true, decide_eq_true_eq, Bool.not_eq_true', decide_eq_false_iff_not] at h
    rw [h.1]; exact .zero h.2
  | k + 1, x, h => by
    simp only [avB, Bool.or_eq_true, Bool.and_eq_true, List.any_eq_true, Bool.not_eq_true', decide_eq_false_iff_not] at h
    rcases h with h | ⟨h1, a, ha, h2⟩
    · exact avB_sound hc k x h
    · exact .step (avB_sound hc k a h2) (mem_preF.1 ha) h1
/-- A test that some numbers are the immediate dominators. -/
def checkDom (ts : List Tm) (ul : List Int) : Bool :=
  decide (ul.length = ts.length) && decide (asU ul 0 = -1) &&
  ((List.range ts.length).all fun x => bif decide (asU ul x < 0) then decide (asU ul x = -1) && (decide (x = 0) || !(orderF ts).contains x) else
    (orderF ts).contains x && (orderF ts).contains (asU ul x).toNat && decide ((orderF ts).idxOf (asU ul x).toNat < (orderF ts).idxOf x) && (decide ((asU ul x).toNat = 0) || decide (0 ≤ asU ul (asU ul x).toNat))) &&
  ((orderF ts).all fun x => (List.range ts.length).all fun d => (chF (asU ul) (ts.length + 1) x).contains d || avB ts d ts.length x) &&
  ((orderF ts).all fun x => (preF ts x).all fun a => !(orderF ts).contains a || (chF (asU ul) (ts.length + 1) x).all fun d => decide (d = x) || (chF (asU ul) (ts.length + 1) a).contains d)
theorem DomU.of_check {ts : List Tm} {ul : List Int} (h : checkDom ts ul = true) : DomU ts ul := by
  unfold checkDom at h
  simp only [Bool.and_eq_true, decide_eq_true_eq, List.all_eq_true, List.mem_range] at h
  obtain ⟨⟨⟨⟨h1, h2⟩, h3⟩, h4⟩, h5⟩ := h
  refine ⟨h1, fun hc => ?_⟩
  have hout : ∀ x, ts.length ≤ x → asU ul x = -1 := fun x hx => by
    unfold asU
    rw [List.getD_eq_getElem?_getD, List.getElem?_eq_none (by omega)]
    rfl
  have hin : ∀ x, 0 ≤ asU ul x → x < ts.length ∧ x ∈ orderF ts ∧ (asU ul x).toNat ∈ orderF ts ∧ (orderF ts).idxOf (asU ul x).toNat < (orderF ts).idxOf x ∧ ((asU ul x).toNat = 0 ∨ 0 ≤ asU ul (asU ul x).toNat) := fun x hx => by
    have hl : x < ts.length := by
      rcases Nat.lt_or_ge x ts.length with h | h
      · exact h
      · rw [hout x h] at hx; omega
    have := h3 x hl
    have hd : decide (asU ul x < 0) = false := by simp; omega
    rw [hd, cond_false] at this
    simp only [Bool.and_eq_true, List.contains_eq_mem, decide_eq_true_eq, Bool.or_eq_true] at this
    exact ⟨hl, this.1.1.1, this.1.1.2, this.1.2, this.2⟩
  have hneg : ∀ x, asU ul x < 0 → asU ul x = -1 ∧ (x = 0 ∨ x ∉ orderF ts) := fun x hx => by
    rcases Nat.lt_or_ge x ts.length with hl | hl
    · have := h3 x hl
      have hd : decide (asU ul x < 0) = true := by simpa using hx
      rw [hd, cond_true] at this
      simp only [Bool.and_eq_true, List.contains_eq_mem, decide_eq_true_eq, Bool.or_eq_true, Bool.not_eq_true', decide_eq_false_iff_not] at this
      exact this
    · exact ⟨hout x hl, .inr fun hm => by have := order_lt hc hm; omega⟩
  have htr : Tr (gra ts hc) (asU ul) := ⟨h2, fun b hb => by
    obtain ⟨_, h5, h6, h7, h8⟩ := hin b hb
    exact ⟨h5, h6, h7, h8⟩⟩
  have hpl : ∀ x, x ∈ orderF ts → (gra ts hc).pl x < ts.length + 1 := fun x hx => by
    have h5 : (orderF ts).idxOf x < (orderF ts).length := List.idxOf_lt_length_of_mem hx
    have h6 := order_len_le hc
    show (orderF ts).idxOf x < _
    omega
  refine ⟨htr, fun c hcR => ?_, fun d x hx => ?_, fun c hcR => ?_⟩
  · rcases Int.lt_or_le (asU ul c) 0 with hu | hu
    · exact .inl ((hneg c hu).2.resolve_right fun hn => hn hcR)
    · exact .inr hu
  · constructor
    · intro hd
      refine ⟨hx, fun hv => ?_⟩
      have key : ∀ x, Av (gra ts hc) d x → ¬ Upw (asU ul) d x := by
        intro x hv
        induction hv with
        | zero h0 =>
          intro ha
          rcases ha.inv with e | ⟨e, _⟩
          · exact h0 e
          · omega
        | @step a x hv he hne ih =>
          intro ha
          have hra : a ∈ orderF ts := hv.reached
          have hrx : x ∈ orderF ts := order_edge' hc hra he
          have h6 := h5 x hrx a (mem_preF.2 he)
          simp only [Bool.or_eq_true, Bool.not_eq_true', List.contains_eq_mem, decide_eq_false_iff_not, List.all_eq_true, decide_eq_true_eq] at h6
          rcases h6 with h6 | h6
          · exact h6 hra
          · rcases h6 d ((mem_chF htr _ _ _ (hpl x hrx)).2 ha) with h7 | h7
            · exact hne h7.symm
            · exact ih ((mem_chF htr _ _ _ (hpl a hra)).1 h7)
      exact key x hv hd
    · intro hd
      have hdl := dom_lt hc hd
      have := h4 x hx d hdl
      simp only [Bool.or_eq_true, List.contains_eq_mem, decide_eq_true_eq] at this
      rcases this with h7 | h7
      · exact (mem_chF htr _ _ _ (hpl x hx)).1 h7
      · exact absurd (avB_sound hc _ _ h7) hd.2
  · rcases Int.lt_or_le (asU ul c) 0 with hu | hu
    · exact (hneg c hu).1
    · exact absurd (hin c hu).2.1 hcR
end Go.Proofs.YtbcnejobnmljlaaDoor

/- The package live: what is live on an edge, walked. -/
namespace Go.Proofs.YtbcnejobnmljlaaDoor
set_option linter.unusedVariables false
open Go Go.RowKit
set_option maxRecDepth 100000

section
set_option maxHeartbeats 2000000 in
theorem live_On_ct {w : World} {f : RFun} {x : RBlk} {b k q : Nat} (hT : Tabs w w.heap.size) (hf : FunAt w w.heap.size f) (hfit : Fit f) (hr : rightF f = 0) (hb : f.blocks[b]? = some x) (hk : (toL x.term)[k]? = some (q : Int)) (hq : q < f.blocks.length) :
    Ct Tryd.prog 47 #[f.val, .agg #[.int .i64 b, .int .i64 k, .int .i64 q]] w (NewL 3 1 (listS (lvI f q)).length (intsN (listS (lvI f q)))) := by
  have hbl := (List.getElem?_eq_some_iff.1 hb).1
  have hkl := (List.getElem?_eq_some_iff.1 hk).1
  have htoL := toL_len x.term
  obtain ⟨hok, h0, h200, hval, _, h64, _⟩ := right_parts hr
  have hg : (!decide (rightF f = 0)) = false := by rw [hr]; rfl
  refine Ct.mk Tryd.func47 rfl rfl ?_
  refine Cd.seq ?_
  refine Cd.region ?_
  refine Ol.x bxg ?_
  rintro _ _ ⟨g2, rfl, rfl⟩
  refine Ol.x bxg ?_
  rintro _ _ ⟨g3, rfl, rfl⟩
  refine Ol.p ass ?_
  refine Ol.nil ?_
  refine Cd.seq ?_
  refine Cd.seq ?_
  have u1 : decide (IntKind.u64.wrap (f.blocks.length : Int) ≤ IntKind.u64.wrap (b : Int)) = false := by
    rw [decide_eq_false_iff_not]
    have e1 : IntKind.u64.wrap (b : Int) = (b : Int) % 18446744073709551616 := rfl
    have e2 : IntKind.u64.wrap (f.blocks.length : Int) = (f.blocks.length : Int) % 18446744073709551616 := rfl
    rw [e1, e2]; omega
  have u2 : decide (IntKind.u64.wrap ((toL x.term).length : Int) ≤ IntKind.u64.wrap (k : Int)) = false := by
    rw [decide_eq_false_iff_not]
    have e1 : IntKind.u64.wrap (k : Int) = (k : Int) % 18446744073709551616 := rfl
    have e2 : IntKind.u64.wrap ((toL x.term).length : Int) = ((toL x.term).length : Int) % 18446744073709551616 := rfl
    rw [e1, e2]; omega
  refine Cd.region ?_
  refine Ol.p (ldw ag_api_Func (i := 1) rfl rfl) ?_
  refine Ol.s (cl en_ir_Right (fun M w' hh => ir_Right_ct (hf.now hh) hfit)) ?_
  refine Ol.p nei ?_
  refine Ol.p mvb ?_
  refine Ol.gp hg (fdl fd_api_Edge_0) ?_
  refine Ol.gp hg (ld one_int (Rd.blk (i := 0) rfl rfl)) ?_
  refine Ol.gp hg (cvw in_int in_uint) ?_
  refine Ol.gp hg (fdl fd_api_Func_1) ?_
  refine Ol.gp hg (ld one_L_api_Block (Rd.blk (i := 1) rfl rfl)) ?_
  refine Ol.gp hg (lens sl_L_api_Block) ?_
  refine Ol.gp hg (cvw in_int in_uint) ?_
  refine Ol.gp hg gei ?_
  refine Ol.p (pkFb hg) ?_
  refine Ol.nil ?_
  refine Cd.cond rfl (fun h => by rw [u1] at h; cases h) (fun h => ?_)   -- $18
  refine Cd.skip ?_
  refine Cd.seq ?_
  refine Cd.region ?_
  refine Ol.p (fdl fd_api_Func_1) ?_
  refine Ol.p (ld one_L_api_Block (Rd.blk (i := 1) rfl rfl)) ?_
  refine Ol.p (fdl fd_api_Edge_0) ?_
  refine Ol.p (ld one_int (Rd.blk (i := 0) rfl rfl)) ?_
  refine Ol.p (ixn (ix := b) sl_L_api_Block (Som.slc hf.blocks (by omega))) ?_
  refine Ol.p (fdp fd_api_Block_1) ?_
  refine Ol.p (lds (es := x.term.cells) ag_api_Term hf.blocks rfl (fun q u hu => by rw [Nat.add_assoc, hf.cell hb (j := 1 + q) (by have := (List.getElem?_eq_some_iff.1 hu).1; simp [Tm.cells] at this; omega), Nat.add_comm]; simpa [RBlk.cells] using hu)) ?_
  refine Ol.x (sp_call en_ir_To (fun M w' hh => ir_To_ct (t := x.term))) ?_
  rintro _ _ ⟨_, rfl, A26, c26, rfl, rfl⟩
  refine Ol.p ass ?_
  refine Ol.nil ?_
  refine Cd.seq ?_
  refine Cd.seq ?_
  refine Cd.draw mixed 17 (fun _ => none) (fun _ => []) (by kernel_rfl) (fun _ _ h => by cases h) (fun u hu => ?_)
  refine Wk.p (fdl fd_api_Edge_1) ?_
  refine Wk.p (ld one_int (Rd.blk (i := 1) rfl rfl)) ?_
  refine Wk.p (cvw in_int in_uint) ?_
  refine Wk.p mvs ?_
  refine Wk.p (lens sl_L_int) ?_
  refine Wk.p (cvw in_int in_uint) ?_
  refine Wk.p gei ?_
  refine Wk.p mvb ?_
  refine Wk.gp u2 mvs ?_
  refine Wk.gp u2 (fdl fd_api_Edge_1) ?_
  refine Wk.gp u2 (ld one_int (Rd.blk (i := 1) rfl rfl)) ?_
  refine Wk.gp u2 (ixn1 (ix := k) sl_L_int (Som.row (i := 0) rfl (by omega))) ?_
  refine Wk.gp u2 (ld one_int (Rd.row (i := 0) rfl (ints_at hk))) ?_
  refine Wk.gp u2 (fdl fd_api_Edge_2) ?_
  refine Wk.gp u2 (ld one_int (Rd.blk (i := 1) rfl rfl)) ?_
  refine Wk.gp u2 nei ?_
  refine Wk.p (pkFb u2) ?_
  refine Wk.nil ?_
  refine Ol.nil ?_
  refine Cd.cond rfl (fun h2 => by simp at h2) (fun h2 => ?_)   -- $43
  refine Cd.skip ?_
  refine Cd.seq ?_
  refine Cd.draw mixed 8 (fun opNo => match opNo with | 1 => some (fun v R => ∃ gI gO, v = .agg #[.slice (some ⟨gI, 0, none⟩) f.blocks.length f.blocks.length, .slice (some ⟨gO, 0, none⟩) f.blocks.length f.blocks.length] ∧ R = [blk gO (.cells (memA f.blocks.length (lvO f)) 27), blk gI (.cells (memA f.blocks.length (lvI f)) 27)]) | 7 => some (NewL 3 1 (listS (lvI f q)).length (intsN (listS (lvI f q)))) | _ => none) (fun opNo => match opNo with | 6 => [1] | _ => []) (by kernel_rfl) (by intro q V h; split at h <;> cases h; exact ⟨_, _, 0, 0, rfl, rfl⟩; exact ⟨_, _, none, 0, rfl, rfl⟩) (fun u hu => ?_)
  refine Wk.p (ldw ag_api_Func (i := 2) rfl rfl) ?_
  refine Wk.x (V := fun v R => ∃ gI gO, v = .agg #[.slice (some ⟨gI, 0, none⟩) f.blocks.length f.blocks.length, .slice (some ⟨gO, 0, none⟩) f.blocks.length f.blocks.length] ∧ R = [blk gO (.cells (memA f.blocks.length (lvO f)) 27), blk gI (.cells (memA f.blocks.length (lvI f)) 27)]) hu (sp_call en_live_solved (fun M w' hh => (live_solved_ct (hf.now hh) hfit hok h200).mono fun v R ⟨gI, gO, I, O, h1, h2, h3, h4, h5, h6⟩ => by rw [lvI_eq h3 h5, lvO_eq h4 h6] at h2; exact ⟨gI, gO, h1, h2⟩)) ?_
  rintro _ _ hu1 ⟨gI, gO, rfl, rfl⟩
  refine Wk.p (fdv fv_live_flow_0 one_L_bits_Set rfl) ?_
  refine Wk.p (fdl fd_api_Edge_2) ?_
  refine Wk.p (ld one_int (Rd.blk (i := 1) rfl rfl)) ?_
  refine Wk.p (ixm (ix := q) sl_L_bits_Set) ?_
  refine Wk.pn (l := [1]) rfl (by simp) (by rw [needs_cons hu1, needs_none]; exact (ldp (k := q * 16) (vs := enc (lvI f q)) ag_bits_Set (i := 1) rfl (enc_size _) (memA_load hq))) ?_
  refine Wk.x (V := NewL 3 1 (listS (lvI f q)).length (intsN (listS (lvI f q)))) hu (sp_call en_bits_Set_List (fun M w' hh => bits_Set_List_ct (hT.now hh))) ?_
  rintro _ _ hu7 ⟨A51, c51, rfl, rfl⟩
  refine Wk.nil ?_
  rw [needs_cons hu7, needs_cons hu1, needs_none]
  refine Ol.p ass ?_
  refine Ol.nil ?_
  exact Cd.ret ⟨.slice _ _ _, ret1 rfl rfl, _, .sub (.cons_cons _ (.cons _ (.cons _ (.cons _ (.cons _ (.cons _ .slnil)))))), _, _, rfl, rfl⟩
end
end Go.Proofs.YtbcnejobnmljlaaDoor

/- Lists of resources told apart by counting. -/
namespace Go.Proofs.YtbcnejobnmljlaaDoor
theorem perm_count {α : Type} {l l' : List α} (h : ∀ (_ : DecidableEq α) (x : α), l.count x = l'.count x) : l.Perm l' := by
  haveI : DecidableEq α := fun a b => Classical.propDecidable (a = b)
  exact List.perm_iff_count.2 fun x => h _ x
theorem keep_count {L L' : List Res} (D : List Res) (h : ∀ (_ : DecidableEq Res) (x : Res), L.count x = (L' ++ D).count x) : Keep L L' := ⟨D, perm_count h⟩
end Go.Proofs.YtbcnejobnmljlaaDoor

/- The package live: what is live where, walked. -/
namespace Go.Proofs.YtbcnejobnmljlaaDoor
set_option linter.unusedVariables false
open Go Go.RowKit
set_option maxRecDepth 100000

/-- What is told of one block, where it lies. -/
structure LvRec where
  iA : Option Addr
  iC : Nat
  oA : Option Addr
  oC : Nat
  g : Nat
  h : Heads
noncomputable def inL (f : RFun) (b : Nat) : List Nat := listS (lvI f b)
noncomputable def outL (f : RFun) (b : Nat) : List Nat := listS (lvO f b)
def ptsN (f : RFun) (b : Nat) : Nat := match f.blocks[b]? with
  | some x => x.ins.length + 1
  | none => 0
noncomputable def atL (f : RFun) (b i : Nat) : List Nat := match f.blocks[b]? with
  | some x => listS (ptAt x.ins (endS x (lvO f b)) i)
  | none => []
noncomputable def atV (f : RFun) (b : Nat) (h : Heads) (i : Nat) : Value := .slice (h i).1 (atL f b i).length (h i).2
noncomputable def atRow (e : TypeId) (f : RFun) (b : Nat) (h : Heads) (i : Nat) : Res := row (atV f b h i) e 1 (atL f b i).length (intsN (atL f b i))
noncomputable def atRows (e : TypeId) (f : RFun) (b : Nat) (h : Heads) : Nat → List Res
  | 0 => []
  | j + 1 => atRow e f b h (ptsN f b - (j + 1)) :: atRows e f b h j
/-- The j last ones are there. -/
noncomputable def atVs (f : RFun) (b : Nat) (h : Heads) (j : Nat) : List Value := (List.range (ptsN f b)).map fun i => if ptsN f b ≤ i + j then atV f b h i else .slice none 0 0
noncomputable def trB (e el : TypeId) (f : RFun) (b : Nat) (t : LvRec) : List Res :=
  [row (.slice (some ⟨t.g, 0, none⟩) (ptsN f b) (ptsN f b)) el 1 (ptsN f b) (atVs f b t.h (ptsN f b)), row (.slice t.oA (outL f b).length t.oC) e 1 (outL f b).length (intsN (outL f b)), row (.slice t.iA (inL f b).length t.iC) e 1 (inL f b).length (intsN (inL f b))] ++ atRows e f b t.h (ptsN f b)
noncomputable def lvAll (e el : TypeId) (f : RFun) : List LvRec → List Res
  | [] => []
  | t :: rs => trB e el f rs.length t ++ lvAll e el f rs
noncomputable def inVs (f : RFun) : List LvRec → List Value
  | [] => []
  | t :: rs => inVs f rs ++ [.slice t.iA (inL f rs.length).length t.iC]
noncomputable def outVs (f : RFun) : List LvRec → List Value
  | [] => []
  | t :: rs => outVs f rs ++ [.slice t.oA (outL f rs.length).length t.oC]
def atVV (f : RFun) : List LvRec → List Value
  | [] => []
  | t :: rs => atVV f rs ++ [.slice (some ⟨t.g, 0, none⟩) (ptsN f rs.length) (ptsN f rs.length)]
theorem inVs_len (f : RFun) : ∀ rs, (inVs f rs).length = rs.length
  | [] => rfl
  | t :: rs => by simp [inVs, inVs_len f rs]
theorem outVs_len (f : RFun) : ∀ rs, (outVs f rs).length = rs.length
  | [] => rfl
  | t :: rs => by simp [outVs, outVs_len f rs]
theorem atVV_len (f : RFun) : ∀ rs, (atVV f rs).length = rs.length
  | [] => rfl
  | t :: rs => by simp [atVV, atVV_len f rs]
theorem lv_at {e el : TypeId} {f : RFun} {b : Nat} : ∀ {rs : List LvRec}, b < rs.length → ∃ t : LvRec, (inVs f rs)[b]? = some (.slice t.iA (inL f b).length t.iC) ∧ (outVs f rs)[b]? = some (.slice t.oA (outL f b).length t.oC) ∧ (atVV f rs)[b]? = some (.slice (some ⟨t.g, 0, none⟩) (ptsN f b) (ptsN f b)) ∧ ∀ r ∈ trB e el f b t, r ∈ lvAll e el f rs
  | [], h => by simp at h
  | t :: rs, h => by
    by_cases hb : b < rs.length
    · obtain ⟨t', h1, h2, h3, h4⟩ := lv_at (e := e) (el := el) (f := f) hb
      refine ⟨t', ?_, ?_, ?_, fun r hr => List.mem_append_right _ (h4 r hr)⟩
      · unfold inVs; rw [List.getElem?_append_left (by rw [inVs_len]; exact hb)]; exact h1
      · unfold outVs; rw [List.getElem?_append_left (by rw [outVs_len]; exact hb)]; exact h2
      · unfold atVV; rw [List.getElem?_append_left (by rw [atVV_len]; exact hb)]; exact h3
    · have e : b = rs.length := by simp at h; omega
      subst e
      refine ⟨t, ?_, ?_, ?_, fun r hr => List.mem_append_left _ hr⟩
      · unfold inVs; rw [List.getElem?_append_right (by rw [inVs_len]; exact Nat.le_refl _), inVs_len]; simp
      · unfold outVs; rw [List.getElem?_append_right (by rw [outVs_len]; exact Nat.le_refl _), outVs_len]; simp
      · unfold atVV; rw [List.getElem?_append_right (by rw [atVV_len]; exact Nat.le_refl _), atVV_len]; simp
theorem atRows_succ {e : TypeId} {f : RFun} {b j : Nat} {h : Heads} : atRows e f b h (j + 1) = atRow e f b h (ptsN f b - (j + 1)) :: atRows e f b h j := rfl
theorem atRows_mem {e : TypeId} {f : RFun} {b : Nat} {h : Heads} {i : Nat} : ∀ {j : Nat}, ptsN f b ≤ i + j → i < ptsN f b → j ≤ ptsN f b → atRow e f b h i ∈ atRows e f b h j
  | 0, h1, h2, _ => by omega
  | j + 1, h1, h2, h3 => by
    unfold atRows
    by_cases he : ptsN f b ≤ i + j
    · exact List.mem_cons_of_mem _ (atRows_mem he h2 (by omega))
    · have : ptsN f b - (j + 1) = i := by omega
      rw [this]; exact List.mem_cons_self ..
theorem atRows_congr {e : TypeId} {f : RFun} {b : Nat} {h h' : Heads} : ∀ {j : Nat}, j ≤ ptsN f b → (∀ i, ptsN f b ≤ i + j → h i = h' i) → atRows e f b h j = atRows e f b h' j
  | 0, _, _ => rfl
  | j + 1, hj, hh => by
    unfold atRows
    rw [atRows_congr (by omega) fun i hi => hh i (by omega)]
    unfold atRow atV
    rw [hh (ptsN f b - (j + 1)) (by omega)]
theorem atVs_len (f : RFun) (b : Nat) (h : Heads) (j : Nat) : (atVs f b h j).length = ptsN f b := by simp [atVs]
theorem atVs_get {f : RFun} {b : Nat} {h : Heads} {i : Nat} (hi : i < ptsN f b) : (atVs f b h (ptsN f b))[i]? = some (atV f b h i) := by
  unfold atVs
  rw [List.getElem?_map, List.getElem?_range hi]
  simp
theorem atVs_zero {f : RFun} {b : Nat} {h : Heads} : atVs f b h 0 = List.replicate (ptsN f b) (.slice none 0 0) := by
  unfold atVs
  rw [List.eq_replicate_iff]
  refine ⟨by simp, fun v hv => ?_⟩
  obtain ⟨i, hi, rfl⟩ := List.mem_map.1 hv
  have : i < ptsN f b := by simpa using hi
  rw [if_neg (by omega)]
theorem atVs_at {f : RFun} {b i : Nat} {h : Heads} {j : Nat} (hi : i < ptsN f b) : (atVs f b h j)[i]? = some (if ptsN f b ≤ i + j then atV f b h i else .slice none 0 0) := by
  unfold atVs
  rw [List.getElem?_map, List.getElem?_range hi]; rfl
def setH (h : Heads) (q : Nat) (A : Option Addr) (c : Nat) : Heads := fun i => if i = q then (A, c) else h i
theorem setH_same {h : Heads} {q : Nat} {A : Option Addr} {c : Nat} : setH h q A c q = (A, c) := by unfold setH; rw [if_pos rfl]
theorem setH_other {h : Heads} {q i : Nat} {A : Option Addr} {c : Nat} (e : i ≠ q) : setH h q A c i = h i := by unfold setH; rw [if_neg e]
theorem atVs_set {f : RFun} {b q j : Nat} {h : Heads} {A : Option Addr} {c : Nat} (hq : q + j + 1 = ptsN f b) : (atVs f b h j).set q (.slice A (atL f b q).length c) = atVs f b (setH h q A c) (j + 1) := by
  apply List.ext_getElem?
  intro i
  rw [List.getElem?_set]
  have hl := atVs_len f b h j
  by_cases hi : i < ptsN f b
  · rw [atVs_at hi, atVs_at hi]
    by_cases e : q = i
    · subst e
      rw [if_pos rfl, if_pos (by omega), if_pos (by omega)]
      unfold atV
      rw [setH_same]
    · rw [if_neg e]
      by_cases h2 : ptsN f b ≤ i + j
      · rw [if_pos h2, if_pos (by omega)]
        unfold atV
        rw [setH_other (fun e2 => e e2.symm)]
      · rw [if_neg h2, if_neg (by omega)]
  · have h1 : (atVs f b h j)[i]? = none := List.getElem?_eq_none (by omega)
    have h2 : (atVs f b (setH h q A c) (j + 1))[i]? = none := List.getElem?_eq_none (by rw [atVs_len]; omega)
    rw [h1, h2]
    split
    · split
      · omega
      · rfl
    · rfl
theorem made_nils (n : Nat) : (madeCells (Value.cells (.slice none 0 0)) (n * 1)).toList.take (n * 1) = List.replicate n (.slice none 0 0) := by
  rw [List.eq_replicate_iff]
  refine ⟨by simp [madeCells], fun v hv => ?_⟩
  have := List.mem_of_mem_take hv
  simp only [madeCells, Value.cells, Array.toList_map, List.mem_map] at this
  obtain ⟨i, _, rfl⟩ := this
  simp [Nat.mod_one]
/-- A slice's literal of one slice, and the row that this one is. -/
def NewIn (e eI n : Nat) (ys : List Value) : Value → List Res → Prop := fun v R => ∃ g A c, v = .slice (some ⟨g, 0, none⟩) 1 1 ∧ R = [row (.slice (some ⟨g, 0, none⟩) 1 1) e 1 1 [.slice A n c], row (.slice A n c) eI 1 n ys]
theorem NewS.inn {P : Program} {w0 : World} {B : Nat} {σ : Env} {L : List Res} {o : Oper} {e eI n c : Nat} {A : Option Addr} {ys : List Value} (h : Sp P w0 B o σ (row (.slice A n c) eI 1 n ys :: L) (NewS e 1 1 1 [.slice A n c] (row (.slice A n c) eI 1 n ys :: L))) :
    Sp P w0 B o σ (row (.slice A n c) eI 1 n ys :: L) (Adds (NewIn e eI n ys) L) := fun M w hh =>
  Goes.mono (h M w hh) fun v w' ⟨L', h1, g, h2, h3⟩ => ⟨L', h1, [row v e 1 1 [.slice A n c], row (.slice A n c) eI 1 n ys], h3, g, A, c, h2, by rw [h2]⟩
theorem keep_in {a b c d : Res} {F X : List Res} : Keep (a :: b :: c :: d :: (F ++ X)) (c :: d :: (F ++ (a :: X))) := ⟨[b], perm_count fun _ x => by simp only [List.count_append, List.count_cons, List.count_nil, List.cons_append]; omega⟩
theorem keep_end {a b c d e g : Res} {G X : List Res} : Keep (a :: b :: c :: d :: e :: g :: (G ++ X)) (G ++ (c :: d :: e :: X)) := ⟨[a, b, g], perm_count fun _ x => by simp only [List.count_append, List.count_cons, List.count_nil, List.cons_append]; omega⟩
theorem keep_fin {a b c : Res} {D X : List Res} : Keep (a :: b :: c :: (D ++ X)) ([a, b, c] ++ X) := ⟨D, perm_count fun _ x => by simp only [List.count_append, List.count_cons, List.count_nil, List.cons_append]; omega⟩
section
set_option maxHeartbeats 8000000 in
theorem live_Of_ct {w : World} {f : RFun} (hT : Tabs w w.heap.size) (hf : FunAt w w.heap.size f) (hfit : Fit f) : Ct Tryd.prog 38 #[f.val] w (fun v R =>
    (rightF f ≠ 0 ∧ v = .tuple #[.agg #[.slice none 0 0, .slice none 0 0, .slice none 0 0], .int .i64 2] ∧ R = []) ∨
    (rightF f = 0 ∧ ∃ A1 c1 A2 c2 A3 c3 rs, rs.length = f.blocks.length ∧ v = .tuple #[.agg #[.slice A1 f.blocks.length c1, .slice A2 f.blocks.length c2, .slice A3 f.blocks.length c3], .int .i64 0] ∧
      R = [row (.slice A1 f.blocks.length c1) 22 1 f.blocks.length (inVs f rs), row (.slice A2 f.blocks.length c2) 22 1 f.blocks.length (outVs f rs), row (.slice A3 f.blocks.length c3) 51 1 f.blocks.length (atVV f rs)] ++ lvAll 3 22 f rs)) := by
  have hbl := hfit.blen
  refine Ct.mk Tryd.func38 rfl rfl ?_
  refine Cd.seq ?_
  refine Cd.region ?_
  refine Ol.x bxg ?_
  rintro _ _ ⟨g1, rfl, rfl⟩
  refine Ol.x (alc zr_live_Live) ?_
  rintro _ _ ⟨g2, rfl, rfl⟩
  refine Ol.p asi ?_
  refine Ol.nil ?_
  refine Cd.seq ?_
  refine Cd.seq ?_
  refine Cd.region ?_
  refine Ol.p (ldw ag_api_Func (i := 1) rfl rfl) ?_
  refine Ol.s (cl en_ir_Right (fun M w' hh => ir_Right_ct (hf.now hh) hfit)) ?_
  refine Ol.p nei ?_
  refine Ol.nil ?_
  refine Cd.cond rfl (fun h => ?_) (fun h => ?_)   -- $12
  · have hne : rightF f ≠ 0 := by simpa using h
    refine Cd.seq ?_
    refine Cd.region ?_
    refine Ol.p (ldw ag_live_Live (i := 0) rfl rfl) ?_
    refine Ol.s (stw (vs := #[.slice none 0 0, .slice none 0 0, .slice none 0 0]) sz_live_Live rfl (by intro u hu; simp at hu; subst hu; rfl) (i := 0) rfl rfl) ?_
    refine Ol.p asi ?_
    refine Ol.nil ?_
    exact Cd.ret ⟨_, retct rfl ag_live_Live rfl rfl (i := 0) rfl rfl, [], .nil, .inl ⟨hne, rfl, rfl⟩⟩
  have hr : rightF f = 0 := by simpa using h
  obtain ⟨hok, h0, h200, hval, _, h64, _⟩ := right_parts hr
  refine Cd.skip ?_
  refine Cd.seq ?_
  refine Cd.region ?_
  refine Ol.p (ldw ag_api_Func (i := 1) rfl rfl) ?_
  refine Ol.x (sp_call en_live_solved (fun M w' hh => live_solved_ct (hf.now hh) hfit hok h200)) ?_
  rintro _ _ ⟨_, rfl, gI, gO, I, O, rfl, rfl, hI1, hO1, hI2, hO2⟩
  have hO := lvO_eq hO1 hO2
  have hI := lvI_eq hI1 hI2
  subst hO hI
  refine Ol.x (alc zr_live_flow) ?_
  rintro _ _ ⟨g4, rfl, rfl⟩
  refine Ol.s (stw (vs := #[.slice (some ⟨gI, 0, none⟩) f.blocks.length f.blocks.length, .slice (some ⟨gO, 0, none⟩) f.blocks.length f.blocks.length]) sz_live_flow rfl (by intro u hu; simp at hu; rcases hu with rfl | rfl <;> rfl) (i := 0) rfl rfl) ?_
  refine Ol.nil ?_
  refine Cd.seq ?_
  refine Cd.seq ?_
  refine Cd.region ?_
  refine Ol.p (fdl fd_api_Func_1) ?_
  refine Ol.p (ld one_L_api_Block (Rd.blk (i := 4) rfl rfl)) ?_
  refine Ol.p (lens sl_L_api_Block) ?_
  refine Ol.p mvi ?_
  refine Ol.nil ?_
  refine Cd.nr 51 1 ?_
  refine Cd.nr 22 1 ?_
  refine Cd.nr 22 1 ?_
  refine Cd.block ?_   -- 0
  refine Cd.loop (fun m σ L => ∃ k A1 c1 A2 c2 A3 c3 rs, m = f.blocks.length - k ∧ k ≤ f.blocks.length ∧ rs.length = k ∧ Has σ [(2, .pointer (some ⟨g2, 0, none⟩)), (4, .pointer (some ⟨g4, 0, none⟩)), (17, .slice f.bA f.blocks.length f.bC), (18, .int .i64 f.blocks.length), (19, .int .i64 k)] ∧
      [row (.slice A1 k c1) 22 1 k (inVs f rs), row (.slice A2 k c2) 22 1 k (outVs f rs), row (.slice A3 k c3) 51 1 k (atVV f rs), blk g4 (.cells #[.slice (some ⟨gI, 0, none⟩) f.blocks.length f.blocks.length, .slice (some ⟨gO, 0, none⟩) f.blocks.length f.blocks.length] 102), blk gO (.cells (memA f.blocks.length (lvO f)) 27), blk gI (.cells (memA f.blocks.length (lvI f)) 27), blk g2 (.cells #[.slice A1 k c1, .slice A2 k c2, .slice A3 k c3] 54), blk g1 (.cells f.cells.toArray 38)] ++ lvAll 3 22 f rs = L) (n := f.blocks.length) ⟨0, none, 0, none, 0, none, 0, [], rfl, Nat.zero_le _, rfl, ⟨rfl, rfl, rfl, rfl, rfl, trivial⟩, rfl⟩ ?_
  rintro _ σ L ⟨k, A1, c1, A2, c2, A3, c3, rs, rfl, hk, hrs, hs, rfl⟩
  refine Cd.has hs ?_
  refine Cd.seq ?_
  refine Cd.region ?_
  refine Ol.p lsi ?_
  refine Ol.nil ?_
  refine Cd.seq ?_
  refine Cd.cond rfl (fun h => ?_) (fun h => ?_)   -- $20
  · have hlt : k < f.blocks.length := by
      simp only [decide_eq_true_eq] at h; omega
    obtain ⟨x, hx⟩ : ∃ x, f.blocks[k]? = some x := ⟨_, List.getElem?_eq_getElem hlt⟩
    have hxm := List.mem_of_getElem? hx
    have h64x := h64 x hxm
    have hpts : ptsN f k = x.ins.length + 1 := by unfold ptsN; rw [hx]
    refine Cd.skip ?_
    refine Cd.seq ?_
    refine Cd.block ?_   -- 1
    refine Cd.seq ?_
    refine Cd.region ?_
    refine Ol.p mvi ?_
    refine Ol.p (ixn (ix := k) sl_L_api_Block (Som.slc hf.blocks (by omega))) ?_
    refine Ol.p (lds (es := x.cells) ag_api_Block hf.blocks x.len (fun j u hu => blk_cell hx hu)) ?_
    refine Ol.x (alc zr_api_Block) ?_
    rintro _ _ ⟨g6, rfl, rfl⟩
    refine Ol.p asi ?_
    refine Ol.s (stw sz_api_Block rfl x.one (i := 0) rfl rfl) ?_
    refine Ol.nil ?_
    refine Cd.seq ?_
    refine Cd.drawT (L0 := _) mixed 9 (fun opNo => match opNo with | 7 => some (NewL 3 1 (inL f k).length (intsN (inL f k))) | 8 => some (NewIn 22 3 (inL f k).length (intsN (inL f k))) | _ => none) (fun opNo => match opNo with | 8 => [7] | _ => []) (fun opNo => match opNo with | 8 => some 7 | _ => none) [] (fun _ => []) (by kernel_rfl) (.refl _) (by intro c hc; cases hc) (by intro q V h; split at h <;> cases h; exact ⟨_, _, none, 0, rfl, rfl⟩; exact ⟨_, _, 0, none, 0, rfl, rfl⟩) (fun u hu hu0 => ?_)
    refine WkT.p (fdl fd_live_Live_0) ?_
    refine WkT.p (ld one_L_L_int (Rd.blk (i := 7) rfl rfl)) ?_
    refine WkT.p (fdl fd_live_flow_0) ?_
    refine WkT.p (ld one_L_bits_Set (Rd.blk (i := 4) rfl rfl)) ?_
    refine WkT.p mvi ?_
    refine WkT.p (ixm (ix := k) sl_L_bits_Set) ?_
    refine WkT.p (ldp (k := k * 16) (vs := enc (lvI f k)) ag_bits_Set (i := 6) rfl (enc_size _) (memA_load hlt)) ?_
    refine WkT.xn (V := NewL 3 1 (inL f k).length (intsN (inL f k))) (l := []) (l2 := []) hu rfl rfl rfl (by rw [needs_none]; exact (sp_call en_bits_Set_List (fun M w' hh => bits_Set_List_ct (hT.now hh)))) ?_
    rintro _ _ hu7 ⟨A31, c31, rfl, rfl⟩
    refine WkT.xn (V := NewIn 22 3 (inL f k).length (intsN (inL f k))) (l := [7]) (l2 := []) hu rfl rfl rfl (by rw [needs_cons hu7, needs_none]; exact (NewS.inn (bsv [.slice A31 (inL f k).length c31] sl_L_L_int zr_L_int (by simp [Value.cells])))) ?_
    rintro _ _ hu8 ⟨g32, iA, iC, rfl, rfl⟩
    refine WkT.nil ?_
    change Ol _ _ _ _ _ (needs u [8] _)
    rw [needs_cons hu8, needs_none]
    refine Ol.x (apn (i := 3) (m := 1) sl_L_L_int zr_L_int rfl (by decide) rfl (Src.row (i := 0) rfl rfl) (by intro u hu; simp at hu; subst hu; rfl) (by unfold maxLen; omega) (by omega)) ?_
    rintro _ _ ⟨A1', c1', rfl, rfl⟩
    refine Ol.p (fdl fd_live_Live_0) ?_
    refine Ol.s (sto (v := .slice A1' (k + 1) c1') (i := 9) (k := 0) (.inr sz_L_L_int) rfl rfl rfl (by simp) rfl) ?_
    refine Ol.keep (.sub (.cons _ (List.Sublist.refl _))) ?_
    refine Ol.nil ?_
    refine Cd.seq ?_
    refine Cd.drawT (L0 := _) mixed 9 (fun opNo => match opNo with | 7 => some (NewL 3 1 (outL f k).length (intsN (outL f k))) | 8 => some (NewIn 22 3 (outL f k).length (intsN (outL f k))) | _ => none) (fun opNo => match opNo with | 8 => [7] | _ => []) (fun opNo => match opNo with | 8 => some 7 | _ => none) [] (fun _ => []) (by kernel_rfl) (.refl _) (by intro c hc; cases hc) (by intro q V h; split at h <;> cases h; exact ⟨_, _, none, 0, rfl, rfl⟩; exact ⟨_, _, 0, none, 0, rfl, rfl⟩) (fun u hu hu0 => ?_)
    refine WkT.p (fdl fd_live_Live_1) ?_
    refine WkT.p (ld one_L_L_int (Rd.blk (i := 8) rfl rfl)) ?_
    refine WkT.p (fdl fd_live_flow_1) ?_
    refine WkT.p (ld one_L_bits_Set (Rd.blk (i := 5) rfl rfl)) ?_
    refine WkT.p mvi ?_
    refine WkT.p (ixm (ix := k) sl_L_bits_Set) ?_
    refine WkT.p (ldp (k := k * 16) (vs := enc (lvO f k)) ag_bits_Set (i := 6) rfl (enc_size _) (memA_load hlt)) ?_
    refine WkT.xn (V := NewL 3 1 (outL f k).length (intsN (outL f k))) (l := []) (l2 := []) hu rfl rfl rfl (by rw [needs_none]; exact (sp_call en_bits_Set_List (fun M w' hh => bits_Set_List_ct (hT.now hh)))) ?_
    rintro _ _ hu7 ⟨A42, c42, rfl, rfl⟩
    refine WkT.xn (V := NewIn 22 3 (outL f k).length (intsN (outL f k))) (l := [7]) (l2 := []) hu rfl rfl rfl (by rw [needs_cons hu7, needs_none]; exact (NewS.inn (bsv [.slice A42 (outL f k).length c42] sl_L_L_int zr_L_int (by simp [Value.cells])))) ?_
    rintro _ _ hu8 ⟨g43, oA, oC, rfl, rfl⟩
    refine WkT.nil ?_
    change Ol _ _ _ _ _ (needs u [8] _)
    rw [needs_cons hu8, needs_none]
    refine Ol.x (apn (i := 5) (m := 1) sl_L_L_int zr_L_int rfl (by decide) rfl (Src.row (i := 0) rfl rfl) (by intro u hu; simp at hu; subst hu; rfl) (by unfold maxLen; omega) (by omega)) ?_
    rintro _ _ ⟨A2', c2', rfl, rfl⟩
    refine Ol.p (fdl fd_live_Live_1) ?_
    refine Ol.s (sto (v := .slice A2' (k + 1) c2') (i := 10) (k := 1) (.inr sz_L_L_int) rfl rfl rfl (by simp) rfl) ?_
    refine Ol.keep (.sub (.cons _ (List.Sublist.refl _))) ?_
    refine Ol.nil ?_
    refine Cd.seq ?_
    refine Cd.region ?_
    refine Ol.p (fdl fd_api_Block_0) ?_
    refine Ol.p (ld one_L_api_Ins (Rd.blk (i := 2) rfl rfl)) ?_
    refine Ol.p (lens sl_L_api_Ins) ?_
    refine Ol.p addi ?_
    refine Ol.x (mks (n := ptsN f k) (c := ptsN f k) sl_L_L_int zr_L_int (hx := by rw [hpts]; rfl) (hy := by rw [hpts]; rfl)) ?_
    rintro _ _ ⟨gt, rfl, rfl⟩
    refine Ol.x (alc zr_L_L_int) ?_
    rintro _ _ ⟨g7, rfl, rfl⟩
    refine Ol.s (stv sz_L_L_int (i := 0) rfl rfl) ?_
    refine Ol.nil ?_
    rw [made_nils, ← atVs_zero (h := fun _ => (none, 0))]
    refine Cd.seq ?_
    refine Cd.seq ?_
    refine Cd.draw mixed 7 (fun opNo => match opNo with | 6 => some (fun v R => ∃ gA gB, v = PointsV gA gB ∧ R = [blk gA (.cells (enc (lvO f k)) 27), blk gB (.cells x.cells.toArray 66)]) | _ => none) (fun _ => []) (by kernel_rfl) (by intro q V h; split at h <;> cases h; exact ⟨_, _, 0, 0, rfl, rfl⟩) (fun u hu => ?_)
    refine Wk.p (ldw ag_api_Block (i := 4) rfl rfl) ?_
    refine Wk.p (fdl fd_live_flow_1) ?_
    refine Wk.p (ld one_L_bits_Set (Rd.blk (i := 8) rfl rfl)) ?_
    refine Wk.p mvi ?_
    refine Wk.p (ixm (ix := k) sl_L_bits_Set) ?_
    refine Wk.p (ldp (k := k * 16) (vs := enc (lvO f k)) ag_bits_Set (i := 9) rfl (enc_size _) (memA_load hlt)) ?_
    refine Wk.x (V := fun v R => ∃ gA gB, v = PointsV gA gB ∧ R = [blk gA (.cells (enc (lvO f k)) 27), blk gB (.cells x.cells.toArray 66)]) hu (sp_call en_live_points (fun M w' hh => live_points_ct (b := x) (out := lvO f k))) ?_
    rintro _ _ hu6 ⟨gA, gB, rfl, rfl⟩
    refine Wk.nil ?_
    rw [needs_cons hu6, needs_none]
    refine Ol.nil ?_
    refine Cd.block ?_   -- 2
    obtain ⟨F, hF⟩ : ∃ F, F = [row (.slice oA (outL f k).length oC) 3 1 (outL f k).length (intsN (outL f k)), row (.slice iA (inL f k).length iC) 3 1 (inL f k).length (intsN (inL f k)), blk g6 (.cells x.cells.toArray 66), row (.slice A1' (k + 1) c1') 22 1 (k + 1) (inVs f rs ++ [.slice iA (inL f k).length iC]), row (.slice A2' (k + 1) c2') 22 1 (k + 1) (outVs f rs ++ [.slice oA (outL f k).length oC]), row (.slice A3 k c3) 51 1 k (atVV f rs), blk g4 (.cells #[.slice (some ⟨gI, 0, none⟩) f.blocks.length f.blocks.length, .slice (some ⟨gO, 0, none⟩) f.blocks.length f.blocks.length] 102), blk gO (.cells (memA f.blocks.length (lvO f)) 27), blk gI (.cells (memA f.blocks.length (lvI f)) 27), blk g2 (.cells #[.slice A1' (k + 1) c1', .slice A2' (k + 1) c2', .slice A3 k c3] 54), blk g1 (.cells f.cells.toArray 38)] := ⟨_, rfl⟩
    refine Cd.rf (Own := [blk gA (.cells (enc (lvO f k)) 27), blk gB (.cells x.cells.toArray 66)]) (L0 := [blk g7 (.cells #[.slice (some ⟨gt, 0, none⟩) (ptsN f k) (ptsN f k)] 51), row (.slice (some ⟨gt, 0, none⟩) (ptsN f k) (ptsN f k)) 22 1 (ptsN f k) (atVs f k (fun _ => (none, 0)) 0)] ++ (F ++ (atRows 3 f k (fun _ => (none, 0)) 0 ++ lvAll 3 22 f rs)))
      (fun j L => ∃ H, [blk g7 (.cells #[.slice (some ⟨gt, 0, none⟩) (ptsN f k) (ptsN f k)] 51), row (.slice (some ⟨gt, 0, none⟩) (ptsN f k) (ptsN f k)) 22 1 (ptsN f k) (atVs f k H j)] ++ (F ++ (atRows 3 f k H j ++ lvAll 3 22 f rs)) = L)
      (fun _ _ _ => False) (fun _ h => by cases h) en_live_points_1 (live_points_1_it (hf.blkIn hfit hxm)) (by rw [hF]; exact .refl _) ⟨_, rfl⟩ ysP_two rfl ?_ ?_ ?_
    · rintro l H j vs _ hj ⟨Hd, rfl⟩
      obtain ⟨q, hq, rfl⟩ := ysP_inv hj
      have hqa : listS (ptAt x.ins (endS x (lvO f k)) q) = atL f k q := by unfold atL; rw [hx]
      refine Cd.seq ?_
      refine Cd.region ?_
      refine Ol.p asi ?_
      refine Ol.nil ?_
      refine Cd.region ?_
      refine Ol.x (alc zr_bits_Set) ?_
      rintro _ _ ⟨g9, rfl, rfl⟩
      refine Ol.s (stw sz_bits_Set (enc_size _) (encF_one _) (i := 0) rfl rfl) ?_
      refine Ol.nil ?_
      intro H' r hr'
      refine Cd.block ?_   -- 3
      refine Cd.draw mixed 4 (fun opNo => match opNo with | 3 => some (NewL 3 1 (atL f k q).length (intsN (atL f k q))) | _ => none) (fun _ => []) (by kernel_rfl) (by intro q V h; split at h <;> cases h; exact ⟨_, _, none, 0, rfl, rfl⟩) (fun u hu => ?_)
      refine Wk.p (ldv one_L_L_int (i := 1) rfl) ?_
      refine Wk.p mvi ?_
      refine Wk.p (ldw ag_bits_Set (i := 0) rfl (enc_size _)) ?_
      refine Wk.x (V := NewL 3 1 (atL f k q).length (intsN (atL f k q))) hu (sp_call en_bits_Set_List (fun M w' hh => by rw [← hqa]; exact bits_Set_List_ct (hT.now hh))) ?_
      rintro _ _ hu3 ⟨A63, c63, rfl, rfl⟩
      refine Wk.nil ?_
      rw [needs_cons hu3, needs_none]
      refine Ol.p (ixn1 (ix := q) sl_L_L_int Som.lit) ?_
      refine Ol.s (str (v := .slice A63 (atL f k q).length c63) (k := q) sz_L_int rfl rfl (i := 3) rfl (by rw [atVs_len]; omega) rfl) ?_
      refine Ol.keep (keep_in (F := F)) ?_
      refine Ol.nil ?_
      refine ⟨setH Hd q A63 c63, ?_⟩
      rw [← atVs_set (j := j) (by omega)]
      rw [atRows_succ, show ptsN f k - (j + 1) = q by omega, atRows_congr (h' := Hd) (by omega) (fun i hi => setH_other (by omega))]
      unfold atRow atV
      rw [setH_same]
      rfl
    · rintro L' ⟨Hd, rfl⟩
      rw [ysP_len, ← hpts, hF]
      refine Cd.region ?_
      refine Ol.p (fdl fd_live_Live_2) ?_
      refine Ol.p (ld one_L_L_L_int (Rd.blk (i := 11) rfl rfl)) ?_
      refine Ol.p (ldv one_L_L_int (i := 0) rfl) ?_
      refine Ol.x (bsv [.slice (some ⟨gt, 0, none⟩) (ptsN f k) (ptsN f k)] sl_L_L_L_int zr_L_L_int (by simp [Value.cells])) ?_
      rintro _ _ ⟨g68, rfl, rfl⟩
      refine Ol.x (apn (i := 8) (m := 1) sl_L_L_L_int zr_L_L_int rfl (by decide) rfl (Src.row (i := 0) rfl rfl) (by intro u hu; simp at hu; subst hu; rfl) (by unfold maxLen; omega) (by omega)) ?_
      rintro _ _ ⟨A3', c3', rfl, rfl⟩
      refine Ol.p (fdl fd_live_Live_2) ?_
      refine Ol.s (sto (v := .slice A3' (k + 1) c3') (i := 12) (k := 2) (.inr sz_L_L_L_int) rfl rfl rfl (by simp) rfl) ?_
      refine Ol.keep (keep_end (G := [_, _, _, _, _, _, _, _])) ?_
      refine Ol.nil ?_
      refine Cd.region ?_
      refine Ol.p addi ?_
      refine Ol.p mvi ?_
      refine Ol.nil ?_
      subst hrs
      exact ⟨f.blocks.length - (rs.length + 1), by omega, rs.length + 1, A1', c1', A2', c2', A3', c3', ⟨iA, iC, oA, oC, gt, Hd⟩ :: rs, rfl, by omega, rfl, ⟨rfl, rfl, rfl, rfl, rfl, trivial⟩, rfl⟩
    · rintro _ c L' h
      exact h.elim
  have hk2 : k = f.blocks.length := by
    simp only [decide_eq_false_iff_not] at h; omega
  subst hk2
  refine Cd.exit (id := 0) ?_
  refine Cd.seq ?_
  refine Cd.region ?_
  refine Ol.p (ldw ag_live_Live (i := 6) rfl rfl) ?_
  refine Ol.s (stw (vs := #[.slice A1 f.blocks.length c1, .slice A2 f.blocks.length c2, .slice A3 f.blocks.length c3]) sz_live_Live rfl (by intro u hu; simp at hu; rcases hu with rfl | rfl | rfl <;> rfl) (i := 6) rfl rfl) ?_
  refine Ol.p asi ?_
  refine Ol.nil ?_
  exact Cd.ret ⟨_, retct rfl ag_live_Live rfl rfl (i := 6) rfl rfl, _, keep_fin (D := [_, _, _, _, _]), .inr ⟨hr, A1, c1, A2, c2, A3, c3, rs, hrs, rfl, rfl⟩⟩
end
end Go.Proofs.YtbcnejobnmljlaaDoor

/- Is a number one of some: walked, as each law has it. -/
namespace Go.Proofs.YtbcnejobnmljlaaDoor
set_option linter.unusedVariables false
open Go Go.RowKit
set_option maxRecDepth 100000

theorem contains_false {l : List Int} {n : Int} (h : ∀ (i : Nat) m, i < l.length → l[i]? = some m → m ≠ n) : l.contains n = false := by
  rw [← Bool.not_eq_true, List.contains_iff_mem]
  intro hm
  obtain ⟨i, hi⟩ := List.mem_iff_getElem?.1 hm
  exact h i n (List.getElem?_eq_some_iff.1 hi).1 hi rfl
theorem contains_natsI {l : List Nat} {n : Nat} : (l.map fun n : Nat => (n : Int)).contains (n : Int) = decide (n ∈ l) := by
  rw [List.contains_eq_mem]
  congr 1
  simp only [List.mem_map, eq_iff_iff]
  exact ⟨fun ⟨m, h, e⟩ => by have : m = n := by omega
                             rwa [← this], fun h => ⟨n, h, rfl⟩⟩
section
theorem law11_has_ct {w : World} {A : Option Addr} {c : Nat} {l : List Int} {n : Int} (hl : Reads w w.heap.size 1 A l.length (ints l)) (hb : l.length < 2 ^ 62) :
    Ct Tryd.prog 35 #[.slice A l.length c, .int .i64 n] w (Is (.bool (l.contains n))) := by
  refine Ct.mk Tryd.func35 rfl rfl ?_
  refine Cd.seq ?_
  refine Cd.region ?_
  refine Ol.p asb ?_
  refine Ol.nil ?_
  refine Cd.seq ?_
  refine Cd.seq ?_
  refine Cd.region ?_
  refine Ol.p asi ?_
  refine Ol.nil ?_
  refine Cd.block ?_
  refine Cd.loop (fun m σ L => ∃ k, m = l.length - k ∧ k ≤ l.length ∧ (∀ (i : Nat) m, i < k → l[i]? = some m → m ≠ n) ∧ Has σ [(0, .slice A l.length c), (1, .int .i64 n), (5, .int .i64 k)] ∧ [] = L) (n := l.length) ⟨0, rfl, Nat.zero_le _, fun i m h => by omega, ⟨rfl, rfl, rfl, trivial⟩, rfl⟩ ?_
  rintro _ σ L ⟨k, rfl, hk, hno, hs, rfl⟩
  refine Cd.has hs ?_
  refine Cd.seq ?_
  refine Cd.seq ?_
  refine Cd.region ?_
  refine Ol.p mvi ?_
  refine Ol.p mvs ?_
  refine Ol.p (lens sl_L_int) ?_
  refine Ol.p lsi ?_
  refine Ol.nil ?_
  refine Cd.cond rfl (fun h => ?_) (fun h => ?_)
  · have hlt : k < l.length := by simpa using h
    obtain ⟨m, hm⟩ : ∃ m, l[k]? = some m := ⟨_, List.getElem?_eq_getElem hlt⟩
    have hmv : (ints l)[k]? = some (.int .i64 m) := by simp [ints, hm]
    refine Cd.skip ?_
    refine Cd.seq ?_
    refine Cd.block ?_
    refine Cd.seq ?_
    refine Cd.region ?_
    refine Ol.p mvs ?_
    refine Ol.p mvi ?_
    refine Ol.p (ixn1 (ix := k) sl_L_int (Som.slc hl (by omega))) ?_
    refine Ol.p (ld one_int (Rd.slc hl hmv)) ?_
    refine Ol.p mvi ?_
    refine Ol.p eqi ?_
    refine Ol.nil ?_
    refine Cd.cond rfl (fun h2 => ?_) (fun h2 => ?_)
    · have e : m = n := by simpa using h2
      have hc : l.contains n = true := by rw [List.contains_iff_mem, ← e]; exact List.mem_of_getElem? hm
      rw [hc]
      refine Cd.seq ?_
      refine Cd.region ?_
      refine Ol.p asb ?_
      refine Ol.nil ?_
      exact Cd.ret ⟨.bool _, ret1 rfl rfl, [], .nil, rfl, rfl⟩
    have e : m ≠ n := by simpa using h2
    refine Cd.skip ?_
    refine Cd.region ?_
    refine Ol.p mvi ?_
    refine Ol.p addi ?_
    refine Ol.p asi ?_
    refine Ol.nil ?_
    refine ⟨l.length - (k + 1), by omega, k + 1, rfl, by omega, fun i m' hi hm' => ?_, ⟨rfl, rfl, rfl, trivial⟩, rfl⟩
    by_cases hik : i = k
    · subst hik
      rw [hm] at hm'; cases hm'
      exact e
    · exact hno i m' (by omega) hm'
  have hc : l.contains n = false := contains_false fun i m hi hm => hno i m (by
    have : ¬ (k : Int) < l.length := by simpa using h
    omega) hm
  rw [hc]
  refine Cd.exit (id := 0) ?_
  refine Cd.seq ?_
  refine Cd.region ?_
  refine Ol.p asb ?_
  refine Ol.nil ?_
  exact Cd.ret ⟨.bool _, ret1 rfl rfl, [], .nil, rfl, rfl⟩
theorem law11_has_nat {w : World} {A : Option Addr} {c : Nat} {l : List Nat} {n : Nat} (hl : Reads w w.heap.size 1 A l.length (l.map fun n : Nat => Value.int .i64 (n : Int))) (hb : l.length < 2 ^ 62) :
    Ct Tryd.prog 35 #[.slice A l.length c, .int .i64 (n : Int)] w (Is (.bool (decide (n ∈ l)))) := by
  have := law11_has_ct (w := w) (A := A) (c := c) (l := l.map fun n : Nat => (n : Int)) (n := (n : Int)) (by rw [List.length_map]; simpa [ints, Function.comp_def] using hl) (by rw [List.length_map]; exact hb)
  rw [List.length_map, contains_natsI] at this
  exact this
end
section
theorem law16_has_ct {w : World} {A : Option Addr} {c : Nat} {l : List Int} {n : Int} (hl : Reads w w.heap.size 1 A l.length (ints l)) (hb : l.length < 2 ^ 62) :
    Ct Tryd.prog 40 #[.slice A l.length c, .int .i64 n] w (Is (.bool (l.contains n))) := by
  refine Ct.mk Tryd.func40 rfl rfl ?_
  refine Cd.seq ?_
  refine Cd.region ?_
  refine Ol.p asb ?_
  refine Ol.nil ?_
  refine Cd.seq ?_
  refine Cd.seq ?_
  refine Cd.region ?_
  refine Ol.p asi ?_
  refine Ol.nil ?_
  refine Cd.block ?_
  refine Cd.loop (fun m σ L => ∃ k, m = l.length - k ∧ k ≤ l.length ∧ (∀ (i : Nat) m, i < k → l[i]? = some m → m ≠ n) ∧ Has σ [(0, .slice A l.length c), (1, .int .i64 n), (5, .int .i64 k)] ∧ [] = L) (n := l.length) ⟨0, rfl, Nat.zero_le _, fun i m h => by omega, ⟨rfl, rfl, rfl, trivial⟩, rfl⟩ ?_
  rintro _ σ L ⟨k, rfl, hk, hno, hs, rfl⟩
  refine Cd.has hs ?_
  refine Cd.seq ?_
  refine Cd.seq ?_
  refine Cd.region ?_
  refine Ol.p mvi ?_
  refine Ol.p mvs ?_
  refine Ol.p (lens sl_L_int) ?_
  refine Ol.p lsi ?_
  refine Ol.nil ?_
  refine Cd.cond rfl (fun h => ?_) (fun h => ?_)
  · have hlt : k < l.length := by simpa using h
    obtain ⟨m, hm⟩ : ∃ m, l[k]? = some m := ⟨_, List.getElem?_eq_getElem hlt⟩
    have hmv : (ints l)[k]? = some (.int .i64 m) := by simp [ints, hm]
    refine Cd.skip ?_
    refine Cd.seq ?_
    refine Cd.block ?_
    refine Cd.seq ?_
    refine Cd.region ?_
    refine Ol.p mvs ?_
    refine Ol.p mvi ?_
    refine Ol.p (ixn1 (ix := k) sl_L_int (Som.slc hl (by omega))) ?_
    refine Ol.p (ld one_int (Rd.slc hl hmv)) ?_
    refine Ol.p mvi ?_
    refine Ol.p eqi ?_
    refine Ol.nil ?_
    refine Cd.cond rfl (fun h2 => ?_) (fun h2 => ?_)
    · have e : m = n := by simpa using h2
      have hc : l.contains n = true := by rw [List.contains_iff_mem, ← e]; exact List.mem_of_getElem? hm
      rw [hc]
      refine Cd.seq ?_
      refine Cd.region ?_
      refine Ol.p asb ?_
      refine Ol.nil ?_
      exact Cd.ret ⟨.bool _, ret1 rfl rfl, [], .nil, rfl, rfl⟩
    have e : m ≠ n := by simpa using h2
    refine Cd.skip ?_
    refine Cd.region ?_
    refine Ol.p mvi ?_
    refine Ol.p addi ?_
    refine Ol.p asi ?_
    refine Ol.nil ?_
    refine ⟨l.length - (k + 1), by omega, k + 1, rfl, by omega, fun i m' hi hm' => ?_, ⟨rfl, rfl, rfl, trivial⟩, rfl⟩
    by_cases hik : i = k
    · subst hik
      rw [hm] at hm'; cases hm'
      exact e
    · exact hno i m' (by omega) hm'
  have hc : l.contains n = false := contains_false fun i m hi hm => hno i m (by
    have : ¬ (k : Int) < l.length := by simpa using h
    omega) hm
  rw [hc]
  refine Cd.exit (id := 0) ?_
  refine Cd.seq ?_
  refine Cd.region ?_
  refine Ol.p asb ?_
  refine Ol.nil ?_
  exact Cd.ret ⟨.bool _, ret1 rfl rfl, [], .nil, rfl, rfl⟩
theorem law16_has_nat {w : World} {A : Option Addr} {c : Nat} {l : List Nat} {n : Nat} (hl : Reads w w.heap.size 1 A l.length (l.map fun n : Nat => Value.int .i64 (n : Int))) (hb : l.length < 2 ^ 62) :
    Ct Tryd.prog 40 #[.slice A l.length c, .int .i64 (n : Int)] w (Is (.bool (decide (n ∈ l)))) := by
  have := law16_has_ct (w := w) (A := A) (c := c) (l := l.map fun n : Nat => (n : Int)) (n := (n : Int)) (by rw [List.length_map]; simpa [ints, Function.comp_def] using hl) (by rw [List.length_map]; exact hb)
  rw [List.length_map, contains_natsI] at this
  exact this
end
end Go.Proofs.YtbcnejobnmljlaaDoor

/- slices.Repeat of one number, walked; the rule of copy. -/
namespace Go.Proofs.YtbcnejobnmljlaaDoor
set_option linter.unusedVariables false
open Go Go.RowKit
set_option maxRecDepth 100000

section
theorem and_mask {n : Nat} (h : n < 2 ^ 32) : n &&& 4294967295 = n := by
  have := Nat.and_two_pow_sub_one_eq_mod n 32
  rw [Nat.mod_eq_of_lt h] at this
  exact this
theorem bits_Mul64_one {w : World} {n : Nat} (h : n < 2 ^ 32) : Ct Tryd.prog 111 #[.int .u64 (1 : Nat), .int .u64 (n : Int)] w (Is (.tuple #[.int .u64 0, .int .u64 (n : Int)])) := by
  have e32 : n / 2 ^ 32 = 0 := Nat.div_eq_of_lt h
  have hm := and_mask h
  refine Ct.mk Tryd.func111 rfl rfl ?_
  refine Cd.seq ?_
  refine Cd.region ?_
  refine Ol.p asi ?_
  refine Ol.p asi ?_
  refine Ol.nil ?_
  refine Cd.seq ?_
  refine Cd.region ?_
  refine Ol.p mvi ?_
  refine Ol.p (andu (a := 1) (b := 4294967295)) ?_
  refine Ol.p asi ?_
  refine Ol.nil ?_
  refine Cd.seq ?_
  refine Cd.region ?_
  refine Ol.p mvi ?_
  refine Ol.p (shru (a := 1) (n := 32)) ?_
  refine Ol.p asi ?_
  refine Ol.nil ?_
  refine Cd.seq ?_
  refine Cd.region ?_
  refine Ol.p mvi ?_
  refine Ol.p (andu (a := n) (b := 4294967295)) ?_
  refine Ol.p asi ?_
  refine Ol.nil ?_
  refine Cd.seq ?_
  refine Cd.region ?_
  refine Ol.p mvi ?_
  refine Ol.p (shru (a := n) (n := 32)) ?_
  refine Ol.p asi ?_
  refine Ol.nil ?_
  rw [hm, e32]
  refine Cd.seq ?_
  refine Cd.region ?_
  refine Ol.p mvi ?_
  refine Ol.p mvi ?_
  refine Ol.p (mlu (a := 1) (b := n)) ?_
  refine Ol.p asi ?_
  refine Ol.nil ?_
  have e1 : 1 * n % 2 ^ 64 = n := by omega
  rw [e1]
  refine Cd.seq ?_
  refine Cd.region ?_
  refine Ol.p mvi ?_
  refine Ol.p mvi ?_
  refine Ol.p (mlu (a := 0) (b := n)) ?_
  refine Ol.p mvi ?_
  refine Ol.p (shru (a := n) (n := 32)) ?_
  refine Ol.p (adu (a := 0 * n % 2 ^ 64) (b := n / 2 ^ 32)) ?_
  refine Ol.p asi ?_
  refine Ol.nil ?_
  have e2 : (0 * n % 2 ^ 64 + n / 2 ^ 32) % 2 ^ 64 = 0 := by rw [e32]; simp
  rw [e2]
  refine Cd.seq ?_
  refine Cd.region ?_
  refine Ol.p mvi ?_
  refine Ol.p (andu (a := 0) (b := 4294967295)) ?_
  refine Ol.p asi ?_
  refine Ol.nil ?_
  refine Cd.seq ?_
  refine Cd.region ?_
  refine Ol.p mvi ?_
  refine Ol.p (shru (a := 0) (n := 32)) ?_
  refine Ol.p asi ?_
  refine Ol.nil ?_
  refine Cd.seq ?_
  refine Cd.region ?_
  refine Ol.p mvi ?_
  refine Ol.p mvi ?_
  refine Ol.p mvi ?_
  refine Ol.p (mlu (a := 1) (b := 0)) ?_
  refine Ol.p (adu (a := 0) (b := 0)) ?_
  refine Ol.p asi ?_
  refine Ol.nil ?_
  refine Cd.seq ?_
  refine Cd.region ?_
  refine Ol.p mvi ?_
  refine Ol.p mvi ?_
  refine Ol.p (mlu (a := 0) (b := 0)) ?_
  refine Ol.p mvi ?_
  refine Ol.p (adu (a := 0) (b := 0)) ?_
  refine Ol.p mvi ?_
  refine Ol.p (shru (a := 0) (n := 32)) ?_
  refine Ol.p (adu (a := 0) (b := 0)) ?_
  refine Ol.p asi ?_
  refine Ol.nil ?_
  refine Cd.seq ?_
  refine Cd.region ?_
  refine Ol.p mvi ?_
  refine Ol.p mvi ?_
  refine Ol.p (mlu (a := 1) (b := n)) ?_
  refine Ol.p asi ?_
  refine Ol.nil ?_
  rw [e1]
  exact Cd.ret ⟨_, ret2 rfl rfl rfl, [], .nil, rfl, rfl⟩
theorem bits_Mul_one {w : World} {n : Nat} (hn : n < 2 ^ 32) : Ct Tryd.prog 101 #[.int .u64 (1 : Nat), .int .u64 (n : Int)] w (Is (.tuple #[.int .u64 0, .int .u64 (n : Int)])) := by
  refine Ct.mk Tryd.func101 rfl rfl ?_
  refine Cd.seq ?_
  refine Cd.region ?_
  refine Ol.p asi ?_
  refine Ol.p asi ?_
  refine Ol.nil ?_
  refine Cd.seq ?_
  refine Cd.cond rfl (fun h => by cases h) (fun h => ?_)
  refine Cd.skip ?_
  refine Cd.seq ?_
  refine Cd.region ?_
  refine Ol.p mvi ?_
  refine Ol.p mvi ?_
  refine Ol.s (cl en_math_bits_Mul64 (fun M w' hh => bits_Mul64_one hn)) ?_
  refine Ol.p mvt ?_
  refine Ol.p extv ?_
  refine Ol.p extv ?_
  refine Ol.p asi ?_
  refine Ol.p asi ?_
  refine Ol.nil ?_
  refine Cd.seq ?_
  refine Cd.region ?_
  refine Ol.p mvi ?_
  refine Ol.p mvi ?_
  refine Ol.p asi ?_
  refine Ol.p asi ?_
  refine Ol.nil ?_
  exact Cd.ret ⟨_, ret2 rfl rfl rfl, [], .nil, rfl, rfl⟩
end
section
def RepV (e n : Nat) (z : Int) : Value → List Res → Prop := fun v R => ∃ g, v = .slice (some ⟨g, 0, none⟩) n n ∧ R = [blk g (.cells (Array.replicate n (.int .i64 z)) e)]
set_option maxHeartbeats 1000000 in
theorem slices_Repeat_one {w : World} {A : Option Addr} {c n : Nat} {z : Int} (hr : Reads w w.heap.size 1 A 1 [.int .i64 z]) (hn0 : 0 < n) (hn : n < 2 ^ 30) : Ct Tryd.prog 82 #[.slice A 1 c, .int .i64 n] w (RepV 3 n z) := by
  refine Ct.mk Tryd.func82 rfl rfl ?_
  refine Cd.seq ?_
  refine Cd.region ?_
  refine Ol.p ass ?_
  refine Ol.nil ?_
  refine Cd.seq ?_
  refine Cd.seq ?_
  refine Cd.region ?_
  refine Ol.p mvi ?_
  refine Ol.p lsi ?_
  refine Ol.nil ?_
  refine Cd.cond rfl (fun h => ?_) (fun h => ?_)   -- $10
  · simp at h
    omega
  refine Cd.skip ?_
  have e1 : IntKind.u64.wrap ((1 : Nat) : Int) = ((1 : Nat) : Int) := wrapu (by decide)
  have en : IntKind.u64.wrap (n : Int) = (n : Int) := wrapu (by omega)
  have en2 : IntKind.i64.wrap (n : Int) = (n : Int) := wrapi (by omega)
  refine Cd.seq ?_
  refine Cd.region ?_
  refine Ol.p mvs ?_
  refine Ol.p (lens sl_L_int) ?_
  refine Ol.p (cvx in_int in_uint e1) ?_
  refine Ol.p mvi ?_
  refine Ol.p (cvx in_int in_uint en) ?_
  refine Ol.s (cl en_math_bits_Mul (fun M w' hh => bits_Mul_one (n := n) (by omega))) ?_
  refine Ol.p mvt ?_
  refine Ol.p extv ?_
  refine Ol.p extv ?_
  refine Ol.p asi ?_
  refine Ol.p asi ?_
  refine Ol.nil ?_
  refine Cd.seq ?_
  refine Cd.seq ?_
  refine Cd.region ?_
  refine Ol.p mvi ?_
  refine Ol.p gti ?_
  refine Ol.p mvb ?_
  refine Ol.gp rfl mvi ?_
  refine Ol.gp rfl gti ?_
  refine Ol.p (pkFb rfl) ?_
  refine Ol.nil ?_
  refine Cd.cond rfl (fun h => ?_) (fun h => ?_)   -- $26
  · simp at h
    omega
  refine Cd.skip ?_
  refine Cd.seq ?_
  refine Cd.region ?_
  refine Ol.p mvi ?_
  refine Ol.p (cvx in_uint in_int en2) ?_
  refine Ol.x (mks sl_L_int zr_int) ?_
  rintro _ _ ⟨gN, rfl, rfl⟩
  refine Ol.p ass ?_
  refine Ol.nil ?_
  refine Cd.unrow fun cs hcs hcs2 => ?_
  have hcn : cs.size = n := by omega
  refine Cd.seq ?_
  refine Cd.region ?_
  refine Ol.p mvs ?_
  refine Ol.p mvs ?_
  refine Ol.s (cpb (i := 0) (off := 0) (n := n) (m := 1) (q := 1) sl_L_int rfl (Src.slc hr) (by intro u hu; simp at hu; subst hu; rfl) (by show 1 = Nat.min 1 n; exact (Nat.min_eq_left hn0).symm) (by omega)) ?_
  refine Ol.p asi ?_
  refine Ol.nil ?_
  refine Cd.seq ?_
  refine Cd.block ?_   -- 0
  refine Cd.loop (fun m σ L => ∃ (q : Nat) (cs : Array Value), m = n - q ∧ 1 ≤ q ∧ q ≤ n ∧ Has σ [(7, .slice (some ⟨gN, 0, none⟩) n n), (8, .int .i64 q)] ∧ L = [blk gN (.cells cs 3)] ∧ cs.size = n ∧ cs.toList.take q = List.replicate q (.int .i64 z)) (n := n - 1) ⟨1, _, rfl, Nat.le_refl _, hn0, ⟨rfl, rfl, trivial⟩, rfl, ?_, ?_⟩ ?_
  · simp [hcn]
    omega
  · simp
  rintro _ σ L ⟨q, cs, rfl, hq1, hqn, hs, rfl, hcn, hcp⟩
  refine Cd.has hs ?_
  refine Cd.seq ?_
  refine Cd.seq ?_
  refine Cd.region ?_
  refine Ol.p mvi ?_
  refine Ol.p mvs ?_
  refine Ol.p (lens sl_L_int) ?_
  refine Ol.p lsi ?_
  refine Ol.nil ?_
  refine Cd.cond rfl (fun h => ?_) (fun h => ?_)   -- $37
  · have hlt : q < n := by simpa using h
    obtain ⟨mn, hmn⟩ : ∃ mn, mn = Nat.min q (n - q) := ⟨_, rfl⟩
    have hmin : mn ≤ q := by rw [hmn]; exact Nat.min_le_left _ _
    have hmin2 : mn ≤ n - q := by rw [hmn]; exact Nat.min_le_right _ _
    have hmin3 : 1 ≤ mn := by
      rw [hmn]
      show 1 ≤ min q (n - q)
      omega
    have hsrc : Src w w.heap.size [blk gN (.cells cs 3)] (some ⟨gN, 0, none⟩) q 1 (List.replicate q (Value.int .i64 z)) := by
      rw [← hcp]
      refine ⟨by simp; omega, fun M w2 hh => .inr ⟨_, rfl, fun j u hu => ?_⟩⟩
      rw [List.getElem?_take] at hu
      split at hu
      · have hb : w2.heap[gN]? = some (.cells cs 3) := hh.has (blk gN (.cells cs 3)) (by simp)
        rw [add_lit_, Nat.zero_add, cell_of_row w2 gN _ cs _ _ hb]
        simpa using hu
      · cases hu
    refine Cd.skip ?_
    refine Cd.block ?_   -- 1
    refine Cd.drawT (L0 := []) mixed 9 (fun opNo => match opNo with | 7 => some (Trn (.int .i64 mn) (blk gN (.cells ((cs.toList.take (0 + q * 1) ++ (List.replicate q (Value.int .i64 z)).take (mn * 1) ++ cs.toList.drop (0 + q * 1 + mn * 1)).toArray) 3))) | 1000 => some ((fun v R => v = undef ∧ R = [blk gN (.cells cs 3)])) | _ => none) (fun opNo => match opNo with | 7 => [1000] | _ => []) (fun opNo => match opNo with | 7 => some 1000 | _ => none) [1000] (fun tokNo => match tokNo with | 1000 => [blk gN (.cells cs 3)] | _ => []) (by kernel_rfl) (.refl _) (by intro c hc; simp only [List.mem_cons, List.not_mem_nil, or_false] at hc; rcases hc with rfl <;> rfl) (by intro q V h; split at h <;> cases h; exact ⟨_, _, rfl, rfl⟩; exact ⟨_, _, rfl, rfl⟩) (fun u hu hu0 => ?_)
    refine WkT.p mvi ?_
    refine WkT.p mvs ?_
    refine WkT.p mvi ?_
    refine WkT.p (slo (l := q) sl_L_int (by omega) (by omega)) ?_
    refine WkT.p mvs ?_
    refine WkT.p mvi ?_
    refine WkT.p (slh (h := q) sl_L_int (by omega)) ?_
    refine WkT.xn (V := Trn (.int .i64 mn) (blk gN (.cells ((cs.toList.take (0 + q * 1) ++ (List.replicate q (Value.int .i64 z)).take (mn * 1) ++ cs.toList.drop (0 + q * 1 + mn * 1)).toArray) 3))) (l := [1000]) (l2 := []) hu rfl rfl rfl (by rw [needs_cons (hu0 1000 (by simp)), needs_none]; exact (det.trn (cpb (i := 0) (off := 0 + q * 1) (n := n - q) (m := q) (q := mn) sl_L_int rfl hsrc (by intro u hu; rw [List.mem_replicate] at hu; rw [hu.2]; rfl) hmn (by omega)))) ?_
    rintro _ _ hu7 ⟨rfl, rfl⟩
    refine WkT.p addi ?_
    refine WkT.nil ?_
    change Ol _ _ _ _ _ (needs u [7] _)
    rw [needs_cons hu7, needs_none]
    refine Ol.p asi ?_
    refine Ol.nil ?_
    refine ⟨n - (q + mn), by omega, q + mn, _, rfl, by omega, by omega, ⟨rfl, rfl, trivial⟩, rfl, ?_, ?_⟩
    · simp [hcn]
      omega
    · have e6 : cs.toList.take (0 + q * 1) ++ (List.replicate q (Value.int .i64 z)).take (mn * 1) = List.replicate (q + mn) (.int .i64 z) := by
        rw [show 0 + q * 1 = q by omega, hcp, Nat.mul_one, List.take_replicate, Nat.min_eq_left hmin, List.replicate_append_replicate]
      simp only [e6]
      rw [List.take_append_of_le_length (by simp)]
      simp
  have hqe : q = n := by
    have : ¬ (q : Int) < n := by simpa using h
    omega
  subst hqe
  have hfin : cs = Array.replicate q (.int .i64 z) := by
    apply Array.ext'
    rw [List.take_of_length_le (by simp; omega)] at hcp
    rw [hcp]; simp
  subst hfin
  refine Cd.exit (id := 0) ?_
  refine Cd.seq ?_
  refine Cd.region ?_
  refine Ol.p mvs ?_
  refine Ol.p ass ?_
  refine Ol.nil ?_
  exact Cd.ret ⟨.slice _ _ _, ret1 rfl rfl, _, .all, gN, rfl, rfl⟩
end
end Go.Proofs.YtbcnejobnmljlaaDoor

/- The package flow: edges of blocks, the critical ones, walked. -/
namespace Go.Proofs.YtbcnejobnmljlaaDoor
set_option linter.unusedVariables false
open Go Go.RowKit
set_option maxRecDepth 100000

/-- A cell of a block of one's own, in whatever is called later. -/
theorem Hp.keeps {w0 w w2 : World} {B i g k : Nat} {M L : List Res} {cs : Array Value} {e : TypeId} {fz : Nat × Nat} {v : Value} (hh : Hp w0 B (M ++ L) w) (hi : L[i]? = some (blk g (.cells cs e fz))) (hk : cs[k]? = some v) (hb : Below w.heap.size w w2) : w2.cell? ⟨g, k, none⟩ = some v := by
  have h1 := Rd.blk hi hk M w hh
  have hlt : g < w.heap.size := World.block_lt_of_cell? w _ h1
  exact (hb.cell (p := ⟨g, k, none⟩) hlt).trans h1
theorem Hp.keepsObj {w0 w w2 : World} {B i g : Nat} {M L : List Res} {o : Obj} (hh : Hp w0 B (M ++ L) w) (hi : L[i]? = some (blk g o)) (hb : Below w.heap.size w w2) : w2.heap[g]? = some o ∧ g < w2.heap.size := by
  have h1 : w.heap[g]? = some o := hh.at_ hi
  have hlt := (Array.getElem?_eq_some_iff.1 h1).1
  exact ⟨(hb.block g hlt).trans h1, Nat.lt_of_lt_of_le hlt hb.size⟩
section
theorem flow_Into_1_ct {w : World} {e : Ed} {g : Nat} {b : Int} (hc : w.cell? ⟨g, 0, none⟩ = some (.int .i64 b)) : Ct Tryd.prog 61 #[e.val, .pointer (some ⟨g, 0, none⟩)] w (Is (.bool (decide (e.to = b)))) := by
  have hlt : g < w.heap.size := World.block_lt_of_cell? w _ hc
  refine Ct.mk Tryd.func61 rfl rfl ?_
  refine Cd.seq ?_
  refine Cd.region ?_
  refine Ol.x bxg ?_
  rintro _ _ ⟨g2, rfl, rfl⟩
  refine Ol.p asb ?_
  refine Ol.nil ?_
  refine Cd.seq ?_
  refine Cd.region ?_
  refine Ol.p (fdl fd_api_Edge_2) ?_
  refine Ol.p (ld one_int (Rd.blk (i := 0) rfl rfl)) ?_
  refine Ol.p (ld one_int (Rd.inp hlt hc)) ?_
  refine Ol.p eqi ?_
  refine Ol.p asb ?_
  refine Ol.nil ?_
  refine Cd.ret ⟨.bool _, ret1 rfl rfl, [], .nil, rfl, rfl⟩
theorem flow_Into_ct {w : World} {f : RFun} {b : Int} (hf : FunAt w w.heap.size f) (hfit : Fit f) : Ct Tryd.prog 32 #[f.val, .int .i64 b] w (NewL 47 3 (someE f.terms fun e => decide (e.to = b)).length (edV (someE f.terms fun e => decide (e.to = b)))) := by
  refine Ct.mk Tryd.func32 rfl rfl ?_
  refine Cd.seq ?_
  refine Cd.region ?_
  refine Ol.x bxg ?_
  rintro _ _ ⟨g2, rfl, rfl⟩
  refine Ol.x bxi ?_
  rintro _ _ ⟨g3, rfl, rfl⟩
  refine Ol.p ass ?_
  refine Ol.nil ?_
  refine Cd.seq ?_
  refine Cd.region ?_
  refine Ol.p (ldw ag_api_Func (i := 1) rfl rfl) ?_
  refine Ol.p mkf ?_
  refine Ol.x (sp_call en_flow_some (fun M w' hh => flow_some_ct (g := 61) (fst := #[]) (cap := #[.pointer (some ⟨g3, 0, none⟩)]) (p := fun e => decide (e.to = b)) (hf.now hh) hfit ⟨en_flow_Into_1, fun e he w2 h2 => flow_Into_1_ct (Hp.keeps hh (i := 0) rfl rfl h2)⟩)) ?_
  rintro _ _ ⟨_, rfl, A, c, rfl, rfl⟩
  refine Ol.p ass ?_
  refine Ol.nil ?_
  refine Cd.ret ⟨.slice _ _ _, ret1 rfl rfl, _, .sub (.cons_cons _ (.cons _ (.cons _ .slnil))), A, c, rfl, rfl⟩
end
section
theorem flow_From_1_ct {w : World} {e : Ed} {g : Nat} {b : Int} (hc : w.cell? ⟨g, 0, none⟩ = some (.int .i64 b)) : Ct Tryd.prog 60 #[e.val, .pointer (some ⟨g, 0, none⟩)] w (Is (.bool (decide (e.src = b)))) := by
  have hlt : g < w.heap.size := World.block_lt_of_cell? w _ hc
  refine Ct.mk Tryd.func60 rfl rfl ?_
  refine Cd.seq ?_
  refine Cd.region ?_
  refine Ol.x bxg ?_
  rintro _ _ ⟨g2, rfl, rfl⟩
  refine Ol.p asb ?_
  refine Ol.nil ?_
  refine Cd.seq ?_
  refine Cd.region ?_
  refine Ol.p (fdl fd_api_Edge_0) ?_
  refine Ol.p (ld one_int (Rd.blk (i := 0) rfl rfl)) ?_
  refine Ol.p (ld one_int (Rd.inp hlt hc)) ?_
  refine Ol.p eqi ?_
  refine Ol.p asb ?_
  refine Ol.nil ?_
  refine Cd.ret ⟨.bool _, ret1 rfl rfl, [], .nil, rfl, rfl⟩
theorem flow_From_ct {w : World} {f : RFun} {b : Int} (hf : FunAt w w.heap.size f) (hfit : Fit f) : Ct Tryd.prog 31 #[f.val, .int .i64 b] w (NewL 47 3 (someE f.terms fun e => decide (e.src = b)).length (edV (someE f.terms fun e => decide (e.src = b)))) := by
  refine Ct.mk Tryd.func31 rfl rfl ?_
  refine Cd.seq ?_
  refine Cd.region ?_
  refine Ol.x bxg ?_
  rintro _ _ ⟨g2, rfl, rfl⟩
  refine Ol.x bxi ?_
  rintro _ _ ⟨g3, rfl, rfl⟩
  refine Ol.p ass ?_
  refine Ol.nil ?_
  refine Cd.seq ?_
  refine Cd.region ?_
  refine Ol.p (ldw ag_api_Func (i := 1) rfl rfl) ?_
  refine Ol.p mkf ?_
  refine Ol.x (sp_call en_flow_some (fun M w' hh => flow_some_ct (g := 60) (fst := #[]) (cap := #[.pointer (some ⟨g3, 0, none⟩)]) (p := fun e => decide (e.src = b)) (hf.now hh) hfit ⟨en_flow_From_1, fun e he w2 h2 => flow_From_1_ct (Hp.keeps hh (i := 0) rfl rfl h2)⟩)) ?_
  rintro _ _ ⟨_, rfl, A, c, rfl, rfl⟩
  refine Ol.p ass ?_
  refine Ol.nil ?_
  refine Cd.ret ⟨.slice _ _ _, ret1 rfl rfl, _, .sub (.cons_cons _ (.cons _ (.cons _ .slnil))), A, c, rfl, rfl⟩
end

/-- How often a number stands among some. -/
def cnt (l : List Int) (n : Int) : Nat := l.count n
/-- Is an edge critical: one of more out of its block, one of more into its block? -/
def critE (ts : List Tm) (e : Ed) : Bool := decide (1 < cnt ((edges ts).map Ed.to) e.to) && decide (1 < cnt ((edges ts).map Ed.src) e.src)
/-- A map that counts. -/
def Cnts (es : List MapEntry) (l : List Int) : Prop := AllI es ∧ ∀ n, (mget es n).getD (.int .i64 0) = .int .i64 (cnt l n : Int)
theorem Cnts.nil : Cnts [] [] := ⟨fun e h => (by cases h), fun n => by simp [mget, cnt]⟩
theorem Cnts.snoc {es es' : List MapEntry} {l : List Int} {k : Int} (h : Cnts es l) (ha : AllI es') (hm : ∀ m, mget es' m = if m = k then some (.int .i64 ((cnt l k : Int) + 1)) else mget es m) : Cnts es' (l ++ [k]) := ⟨ha, fun n => by
  rw [hm n]
  by_cases hn : n = k
  · subst hn
    simp [cnt]
  · rw [if_neg hn, h.2 n]
    have : ¬ k = n := fun e => hn e.symm
    simp [cnt, List.count_append, this]⟩
section
theorem flow_Critical_1_ct {w : World} {e : Ed} {ga gb m1 m2 c1 c2 : Nat} {es1 es2 : Array MapEntry} {l1 l2 : List Int} (ha : w.cell? ⟨ga, 0, none⟩ = some (.map (some m1))) (hb : w.cell? ⟨gb, 0, none⟩ = some (.map (some m2)))
    (h1 : w.heap[m1]? = some (.map es1 c1)) (h2 : w.heap[m2]? = some (.map es2 c2)) (k1 : Cnts es1.toList l1) (k2 : Cnts es2.toList l2) :
    Ct Tryd.prog 59 #[e.val, .pointer (some ⟨ga, 0, none⟩), .pointer (some ⟨gb, 0, none⟩)] w (Is (.bool (decide (1 < cnt l1 e.to) && decide (1 < cnt l2 e.src)))) := by
  have hlt1 : ga < w.heap.size := World.block_lt_of_cell? w _ ha
  have hlt2 : gb < w.heap.size := World.block_lt_of_cell? w _ hb
  have hm1 := (Array.getElem?_eq_some_iff.1 h1).1
  have hm2 := (Array.getElem?_eq_some_iff.1 h2).1
  refine Ct.mk Tryd.func59 rfl rfl ?_
  refine Cd.seq ?_
  refine Cd.region ?_
  refine Ol.x bxg ?_
  rintro _ _ ⟨g3, rfl, rfl⟩
  refine Ol.p asb ?_
  refine Ol.nil ?_
  refine Cd.seq ?_
  cases hc : decide ((1 : Int) < (cnt l1 e.to : Int)) with
  | true =>
    refine Cd.region ?_
    refine Ol.p (ld one_map_int_int (Rd.inp hlt1 ha)) ?_
    refine Ol.p (fdl fd_api_Edge_2) ?_
    refine Ol.p (ld one_int (Rd.blk (i := 0) rfl rfl)) ?_
    refine Ol.p (lkw mt_map_int_int hm1 h1 k1.1 (k1.2 e.to)) ?_
    refine Ol.p gti ?_
    refine Ol.p mvb ?_
    refine Ol.gp hc (ld one_map_int_int (Rd.inp hlt2 hb)) ?_
    refine Ol.gp hc (fdl fd_api_Edge_0) ?_
    refine Ol.gp hc (ld one_int (Rd.blk (i := 0) rfl rfl)) ?_
    refine Ol.gp hc (lkw mt_map_int_int hm2 h2 k2.1 (k2.2 e.src)) ?_
    refine Ol.gp hc gti ?_
    refine Ol.p (pkTb hc) ?_
    refine Ol.p asb ?_
    refine Ol.nil ?_
    refine Cd.ret ⟨.bool _, ret1 rfl rfl, [], .nil, ?_, rfl⟩
    have : 1 < cnt l1 e.to := by simp at hc; omega
    simp [this]
    omega
  | false =>
    refine Cd.region ?_
    refine Ol.p (ld one_map_int_int (Rd.inp hlt1 ha)) ?_
    refine Ol.p (fdl fd_api_Edge_2) ?_
    refine Ol.p (ld one_int (Rd.blk (i := 0) rfl rfl)) ?_
    refine Ol.p (lkw mt_map_int_int hm1 h1 k1.1 (k1.2 e.to)) ?_
    refine Ol.p gti ?_
    refine Ol.p mvb ?_
    refine Ol.gn hc ?_
    refine Ol.gn hc ?_
    refine Ol.gn hc ?_
    refine Ol.gn hc ?_
    refine Ol.gn hc ?_
    refine Ol.p (pkFb hc) ?_
    refine Ol.p asb ?_
    refine Ol.nil ?_
    refine Cd.ret ⟨.bool _, ret1 rfl rfl, [], .nil, ?_, rfl⟩
    have : ¬ 1 < cnt l1 e.to := by simp at hc; omega
    simp [this]
set_option maxHeartbeats 1000000 in
theorem flow_Critical_ct {w : World} {f : RFun} (hf : FunAt w w.heap.size f) (hfit : Fit f) : Ct Tryd.prog 30 #[f.val] w (NewL 47 3 (someE f.terms (critE f.terms)).length (edV (someE f.terms (critE f.terms)))) := by
  have hbl := hfit.blen
  have htl : f.terms.length = f.blocks.length := by simp [RFun.terms]
  have hel := edgesTo_len_le f.terms f.terms.length
  refine Ct.mk Tryd.func30 rfl rfl ?_
  refine Cd.seq ?_
  refine Cd.region ?_
  refine Ol.x bxg ?_
  rintro _ _ ⟨g1, rfl, rfl⟩
  refine Ol.p ass ?_
  refine Ol.nil ?_
  refine Cd.seq ?_
  refine Cd.region ?_
  refine Ol.x mkm ?_
  rintro _ _ ⟨g6, rfl, rfl⟩
  refine Ol.x mkm ?_
  rintro _ _ ⟨g7, rfl, rfl⟩
  refine Ol.x (alc zr_map_int_int) ?_
  rintro _ _ ⟨g3, rfl, rfl⟩
  refine Ol.x (alc zr_map_int_int) ?_
  rintro _ _ ⟨g4, rfl, rfl⟩
  refine Ol.s (stv sz_map_int_int (i := 1) rfl rfl) ?_
  refine Ol.s (stv sz_map_int_int (i := 0) rfl rfl) ?_
  refine Ol.nil ?_
  refine Cd.seq ?_
  refine Cd.seq ?_
  refine Cd.region ?_
  refine Ol.p (ldw ag_api_Func (i := 4) rfl rfl) ?_
  refine Ol.x (sp_call en_flow_each (fun M w' hh => flow_each_ct (f := f))) ?_
  rintro _ _ ⟨_, rfl, gE, rfl, rfl⟩
  refine Ol.nil ?_
  refine Cd.block ?_
  refine Cd.rf (Own := [blk gE (.cells f.cells.toArray 38)]) (L0 := [blk g4 (.cells #[.map (some g7)] 93), blk g3 (.cells #[.map (some g6)] 93), blk g7 (.map #[] 0), blk g6 (.map #[] 0), blk g1 (.cells f.cells.toArray 38)])
    (fun k L => ∃ es1 es2 c1 c2, L = [blk g4 (.cells #[.map (some g7)] 93), blk g3 (.cells #[.map (some g6)] 93), blk g7 (.map es2 c2), blk g6 (.map es1 c1), blk g1 (.cells f.cells.toArray 38)] ∧ Cnts es1.toList (((edges f.terms).take k).map Ed.to) ∧ Cnts es2.toList (((edges f.terms).take k).map Ed.src))
    (fun _ _ _ => False) (fun _ h => by cases h) en_flow_each_1 (flow_each_1_it hf hfit) (.refl _) ⟨#[], #[], 0, 0, rfl, Cnts.nil, Cnts.nil⟩ ysE_one rfl ?_ ?_ (fun _ _ _ h => h.elim)
  · rintro l H k vs Lj hk ⟨es1, es2, c1, c2, rfl, hk1, hk2⟩
    obtain ⟨e, he, rfl, hlt⟩ := ysE_get hk
    have hkb : k < 2 ^ 52 := by unfold edges at hlt; omega
    have n1 : cnt (((edges f.terms).take k).map Ed.to) e.to ≤ k := Nat.le_trans List.count_le_length (by simp; omega)
    have n2 : cnt (((edges f.terms).take k).map Ed.src) e.src ≤ k := Nat.le_trans List.count_le_length (by simp; omega)
    have s1 : ((edges f.terms).take (k + 1)).map Ed.to = ((edges f.terms).take k).map Ed.to ++ [e.to] := by rw [take_snoc_ he, List.map_append]; rfl
    have s2 : ((edges f.terms).take (k + 1)).map Ed.src = ((edges f.terms).take k).map Ed.src ++ [e.src] := by rw [take_snoc_ he, List.map_append]; rfl
    refine Cd.region ?_
    refine Ol.x (alc zr_api_Edge) ?_
    rintro _ _ ⟨g5, rfl, rfl⟩
    refine Ol.s (stw sz_api_Edge rfl e.one (i := 0) rfl rfl) ?_
    refine Ol.nil ?_
    intro H' r hr
    refine Cd.block ?_
    refine Cd.seq ?_
    refine Cd.region ?_
    refine Ol.p (ldv one_map_int_int (i := 2) rfl) ?_
    refine Ol.p (fdl fd_api_Edge_2) ?_
    refine Ol.p (ld one_int (Rd.blk (i := 0) rfl rfl)) ?_
    refine Ol.p (lkn mt_map_int_int (i := 4) rfl hk1.1 (hk1.2 e.to)) ?_
    refine Ol.p addi ?_
    refine Ol.x (upm (v := .int .i64 ((cnt (((edges f.terms).take k).map Ed.to) e.to : Int) + 1)) mt_map_int_int (i := 4) rfl hk1.1 rfl) ?_
    rintro _ _ ⟨es1', c1', rfl, ha1, hm1⟩
    refine Ol.nil ?_
    refine Cd.region ?_
    refine Ol.p (ldv one_map_int_int (i := 1) rfl) ?_
    refine Ol.p (fdl fd_api_Edge_0) ?_
    refine Ol.p (ld one_int (Rd.blk (i := 0) rfl rfl)) ?_
    refine Ol.p (lkn mt_map_int_int (i := 3) rfl hk2.1 (hk2.2 e.src)) ?_
    refine Ol.p addi ?_
    refine Ol.x (upm (v := .int .i64 ((cnt (((edges f.terms).take k).map Ed.src) e.src : Int) + 1)) mt_map_int_int (i := 3) rfl hk2.1 rfl) ?_
    rintro _ _ ⟨es2', c2', rfl, ha2, hm2⟩
    refine Ol.keep (.sub (.cons _ (List.Sublist.refl _))) ?_
    refine Ol.nil ?_
    refine ⟨es1', es2', c1', c2', rfl, ?_, ?_⟩
    · rw [s1]; exact hk1.snoc ha1 hm1
    · rw [s2]; exact hk2.snoc ha2 hm2
  · rintro L' ⟨es1, es2, c1, c2, rfl, hk1, hk2⟩
    rw [ysE_len, List.take_length] at hk1 hk2
    refine Cd.seq ?_
    refine Cd.region ?_
    refine Ol.p (ldw ag_api_Func (i := 4) rfl rfl) ?_
    refine Ol.p mkf ?_
    refine Ol.x (sp_call en_flow_some (fun M w' hh => flow_some_ct (g := 59) (fst := #[]) (cap := #[.pointer (some ⟨g3, 0, none⟩), .pointer (some ⟨g4, 0, none⟩)]) (p := critE f.terms) (hf.now hh) hfit ⟨en_flow_Critical_1, fun e he w2 h2 => flow_Critical_1_ct (Hp.keeps hh (i := 1) rfl rfl h2) (Hp.keeps hh (i := 0) rfl rfl h2) (Hp.keepsObj hh (i := 3) rfl h2).1 (Hp.keepsObj hh (i := 2) rfl h2).1 hk1 hk2⟩)) ?_
    rintro _ _ ⟨_, rfl, A, c, rfl, rfl⟩
    refine Ol.p ass ?_
    refine Ol.nil ?_
    refine Cd.ret ⟨.slice _ _ _, ret1 rfl rfl, _, .sub (.cons_cons _ (List.nil_sublist _)), A, c, rfl, rfl⟩
end
end Go.Proofs.YtbcnejobnmljlaaDoor

/- The package flow: what is reached, walked. -/
namespace Go.Proofs.YtbcnejobnmljlaaDoor
set_option linter.unusedVariables false
open Go Go.RowKit
set_option maxRecDepth 100000

theorem enc_ne {s t : Nat} (hs : Sm s) (ht : Sm t) : decide (s = t) = true ↔ enc s = enc t := enc_iff hs ht
theorem intsN_get {l : List Nat} {k n : Nat} (h : l[k]? = some n) : (intsN l)[k]? = some (.int .i64 (n : Int)) := by simp [intsN, h]
theorem toAt_i64 {f : RFun} (hfit : Fit f) {b : RBlk} (hb : b ∈ f.blocks) : ∀ n ∈ toL b.term, I64 n := fun n hn => by
  unfold I64
  rcases toL_mem hn with e | e
  · exact hfit.term b hb _ (by simp [e])
  · exact hfit.term b hb _ (by simp [e])
section
set_option maxHeartbeats 2000000 in
theorem flow_Reached_ct {w : World} {f : RFun} {A1 A2 : Option Addr} {c1 c2 : Nat} {fr nt : List Int} (hT : Tabs w w.heap.size) (hf : FunAt w w.heap.size f) (hfit : Fit f) (hfr : Reads w w.heap.size 1 A1 fr.length (ints fr)) (hnt : Reads w w.heap.size 1 A2 nt.length (ints nt))
    (hi1 : ∀ n ∈ fr, I64 n) (hi2 : ∀ n ∈ nt, I64 n) (hl1 : fr.length < 2 ^ 60) (hl2 : nt.length < 2 ^ 60) :
    Ct Tryd.prog 28 #[f.val, .slice A1 fr.length c1, .slice A2 nt.length c2] w (NewL 3 1 (reachedF f.terms fr nt).length (intsN (reachedF f.terms fr nt))) := by
  have hbl := hfit.blen
  have htl : f.terms.length = f.blocks.length := by simp [RFun.terms]
  refine Ct.mk Tryd.func28 rfl rfl ?_
  refine Cd.seq ?_
  refine Cd.region ?_
  refine Ol.x bxg ?_
  rintro _ _ ⟨g3, rfl, rfl⟩
  refine Ol.p ass ?_
  refine Ol.nil ?_
  refine Cd.seq ?_
  refine Cd.seq ?_
  refine Cd.region ?_
  refine Ol.p (ldw ag_api_Func (i := 0) rfl rfl) ?_
  refine Ol.s (cl en_flow_Closed (fun M w' hh => flow_Closed_ct (hf.now hh) hfit)) ?_
  refine Ol.p noti ?_
  refine Ol.nil ?_
  refine Cd.cond rfl (fun h => ?_) (fun h => ?_)
  · have hcl : closed f.terms = false := by simpa using h
    have e : reachedF f.terms fr nt = [] := by unfold reachedF; rw [hcl]; rfl
    rw [e]
    refine Cd.seq ?_
    refine Cd.region ?_
    refine Ol.p ass ?_
    refine Ol.nil ?_
    refine Cd.nr 3 1 ?_
    refine Cd.ret ⟨.slice none 0 0, ret1 rfl rfl, _, .sub (.cons_cons _ (.cons _ .slnil)), none, 0, rfl, rfl⟩
  have hcl : closed f.terms = true := by simpa using h
  obtain ⟨hpos, hmax, hedge⟩ := closed_len hcl
  rw [htl] at hpos hmax
  obtain ⟨op, hop⟩ : ∃ op, op = lessL (allS f.blocks.length) nt := ⟨_, rfl⟩
  obtain ⟨s0, hs0⟩ : ∃ s0, s0 = op &&& ofL fr := ⟨_, rfl⟩
  have hopsm : Sm op := by rw [hop]; exact lessL_sm (allS_sm (by omega))
  have hopn : ∀ i, op.testBit i = true → i < f.blocks.length := fun i hi => by
    rw [hop, testBit_lessL, testBit_allS _ _ (by omega)] at hi
    simp only [Bool.and_eq_true, decide_eq_true_eq] at hi
    exact hi.1
  have hs0op : Sub s0 op := fun i hi => by
    rw [hs0, Nat.testBit_and] at hi
    simp only [Bool.and_eq_true] at hi
    exact hi.1
  have e : reachedF f.terms fr nt = listS (reachS f.terms op s0) := by unfold reachedF; rw [hcl, hs0, hop, htl]; rfl
  rw [e]
  refine Cd.skip ?_
  refine Cd.seq ?_
  refine Cd.region ?_
  refine Ol.x (alc zr_bits_Set) ?_
  rintro _ _ ⟨g7, rfl, rfl⟩
  refine Ol.nil ?_
  refine Cd.seq ?_
  refine Cd.seq ?_
  refine Cd.region ?_
  refine Ol.p (fdl fd_api_Func_1) ?_
  refine Ol.p (ld one_L_api_Block (Rd.blk (i := 1) rfl rfl)) ?_
  refine Ol.p (lens sl_L_api_Block) ?_
  refine Ol.p mvi ?_
  refine Ol.nil ?_
  refine Cd.block ?_
  refine Cd.loop (fun m σ L => ∃ k, m = f.blocks.length - k ∧ k ≤ f.blocks.length ∧ Has σ [(1, .slice A1 fr.length c1), (2, .slice A2 nt.length c2), (3, .pointer (some ⟨g3, 0, none⟩)), (7, .pointer (some ⟨g7, 0, none⟩)), (19, .int .i64 f.blocks.length), (20, .int .i64 k)] ∧ L = [blk g7 (.cells (enc (allS k)) 27), blk g3 (.cells f.cells.toArray 38)]) (n := f.blocks.length) ⟨0, rfl, Nat.zero_le _, ⟨rfl, rfl, rfl, rfl, rfl, rfl, trivial⟩, by rw [show allS 0 = 0 from rfl, enc0]; rfl⟩ ?_
  rintro _ σ L ⟨k, rfl, hk, hs, rfl⟩
  refine Cd.has hs ?_
  refine Cd.seq ?_
  refine Cd.region ?_
  refine Ol.p lsi ?_
  refine Ol.nil ?_
  refine Cd.seq ?_
  refine Cd.cond rfl (fun h => ?_) (fun h => ?_)
  · have hlt : k < f.blocks.length := by simpa using h
    refine Cd.skip ?_
    refine Cd.seq ?_
    refine Cd.block ?_
    refine Cd.seq ?_
    refine Cd.region ?_
    refine Ol.p mvi ?_
    refine Ol.p asi ?_
    refine Ol.nil ?_
    refine Cd.region ?_
    refine Ol.p (ldw ag_bits_Set (i := 0) rfl (enc_size _)) ?_
    refine Ol.p mvi ?_
    refine Ol.x (bsv [.int .i64 (k : Int)] sl_L_int zr_int (by simp [Value.cells])) ?_
    rintro _ _ ⟨g25, rfl, rfl⟩
    refine Ol.s (cl en_bits_Set_With (fun M w' hh => bits_Set_With_ct (s := allS k) (l := [(k : Int)]) (Reads.row hh (i := 0) rfl) (by intro n hn; simp at hn; subst hn; unfold I64; omega) (by simp))) ?_
    refine Ol.s (stw sz_bits_Set (enc_size _) (encF_one _) (i := 1) rfl (enc_size _)) ?_
    refine Ol.keep (.sub (.cons _ (List.Sublist.refl _))) ?_
    refine Ol.nil ?_
    refine Cd.region ?_
    refine Ol.p addi ?_
    refine Ol.p mvi ?_
    refine Ol.nil ?_
    refine ⟨f.blocks.length - (k + 1), by omega, k + 1, rfl, by omega, ⟨rfl, rfl, rfl, rfl, rfl, rfl, trivial⟩, ?_⟩
    rw [allS_succ]
    rfl
  have hge : k = f.blocks.length := by
    have : ¬ (k : Int) < f.blocks.length := by simpa using h
    omega
  subst hge
  refine Cd.exit (id := 0) ?_
  refine Cd.seq ?_
  refine Cd.region ?_
  refine Ol.p (ldw ag_bits_Set (i := 0) rfl (enc_size _)) ?_
  refine Ol.p mvs ?_
  refine Ol.s (cl en_bits_Set_Without (fun M w' hh => bits_Set_Without_ct (s := allS f.blocks.length) (l := nt) (hnt.now hh) hi2 (by omega))) ?_
  refine Ol.x (alc zr_bits_Set) ?_
  rintro _ _ ⟨g9, rfl, rfl⟩
  refine Ol.s (stw sz_bits_Set (enc_size _) (encF_one _) (i := 0) rfl rfl) ?_
  refine Ol.keep (.sub (.cons_cons _ (.cons _ (List.Sublist.refl _)))) ?_
  refine Ol.nil ?_
  rw [← hop]
  refine Cd.seq ?_
  refine Cd.draw mixed 5 (fun j => match j with | 2 => some (Is (.agg (enc (ofL fr)))) | 3 => some (Is (.agg (enc (op &&& ofL fr)))) | 4 => some (NewPv (.cells #[.int .u64 0, .int .u64 0, .int .u64 0, .int .u64 0, .int .u64 0, .int .u64 0, .int .u64 0, .int .u64 0, .int .u64 0, .int .u64 0, .int .u64 0, .int .u64 0, .int .u64 0, .int .u64 0, .int .u64 0, .int .u64 0] 27)) | _ => none) (fun _ => []) (by kernel_rfl) (by intro j V h; split at h <;> cases h; exact ⟨_, [], rfl, rfl⟩; exact ⟨_, [], rfl, rfl⟩; exact ⟨_, _, 0, rfl, rfl⟩) (fun u hu => ?_)
  refine Wk.p (ldw ag_bits_Set (i := 0) rfl (enc_size _)) ?_
  refine Wk.p mvs ?_
  refine Wk.x hu (sp_call en_bits_Of (fun M w' hh => bits_Of_ct (l := fr) (hfr.now hh) hi1 (by omega))) ?_
  rintro _ _ hu2 ⟨rfl, rfl⟩
  refine Wk.x hu (sp_call en_bits_Set_And (fun M w' hh => bits_Set_And_ct (s := op) (t := ofL fr))) ?_
  rintro _ _ hu3 ⟨rfl, rfl⟩
  refine Wk.x hu (NewP.adds (alc zr_bits_Set)) ?_
  rintro _ _ hu4 ⟨g10, rfl, rfl⟩
  refine Wk.nil ?_
  rw [needs_cons hu4, needs_cons hu3, needs_cons hu2, needs_none, ← hs0]
  refine Ol.s (stw sz_bits_Set (enc_size _) (encF_one _) (i := 0) rfl rfl) ?_
  refine Ol.nil ?_
  refine Cd.block ?_
  refine Cd.loop (fun m σ L => ∃ k g, m = 1025 - (listS (iterF (stepS f.terms op) k s0)).length ∧ k ≤ (listS (iterF (stepS f.terms op) k s0)).length ∧ Has σ [(3, .pointer (some ⟨g3, 0, none⟩)), (9, .pointer (some ⟨g9, 0, none⟩)), (10, .pointer (some ⟨g, 0, none⟩))] ∧ Sub (iterF (stepS f.terms op) k s0) op ∧ L = [blk g (.cells (enc (iterF (stepS f.terms op) k s0)) 27), blk g9 (.cells (enc op) 27), blk g3 (.cells f.cells.toArray 38)]) (n := 1025 - (listS s0).length) ⟨0, g10, rfl, Nat.zero_le _, ⟨rfl, rfl, rfl, trivial⟩, hs0op, rfl⟩ ?_
  rintro _ σ L ⟨k, g, rfl, hk, hs, hsub, rfl⟩
  obtain ⟨at_, hat⟩ : ∃ s, s = iterF (stepS f.terms op) k s0 := ⟨_, rfl⟩
  rw [← hat] at hk hsub ⊢
  have hatsm : Sm at_ := hsub.sm hopsm
  have hlen := listS_len_le at_
  refine Cd.has hs ?_
  refine Cd.mid (fun σ' L' => ∃ ga gn, Has σ' [(3, .pointer (some ⟨g3, 0, none⟩)), (9, .pointer (some ⟨g9, 0, none⟩)), (10, .pointer (some ⟨ga, 0, none⟩))] ∧ stepS f.terms op at_ ≠ at_ ∧ L' = [blk gn (.cells (enc (stepS f.terms op at_)) 27), blk ga (.cells (enc (stepS f.terms op at_)) 27), blk g9 (.cells (enc op) 27), blk g3 (.cells f.cells.toArray 38)]) ?_ ?_
  · refine Cd.block ?_
    refine Cd.seq ?_
    refine Cd.region ?_
    refine Ol.p (ldw ag_bits_Set (i := 0) rfl (enc_size _)) ?_
    refine Ol.x (alc zr_bits_Set) ?_
    rintro _ _ ⟨g11, rfl, rfl⟩
    refine Ol.s (stw sz_bits_Set (enc_size _) (encF_one _) (i := 0) rfl rfl) ?_
    refine Ol.nil ?_
    refine Cd.seq ?_
    refine Cd.seq ?_
    refine Cd.region ?_
    refine Ol.p (ldw ag_bits_Set (i := 1) rfl (enc_size _)) ?_
    refine Ol.x (sp_call en_bits_Set_List (fun M w' hh => bits_Set_List_ct (s := at_) (hT.now hh))) ?_
    rintro _ _ ⟨_, rfl, A, c, rfl, rfl⟩
    refine Ol.p (lens sl_L_int) ?_
    refine Ol.p mvi ?_
    refine Ol.nil ?_
    refine Cd.block ?_
    refine Cd.loop (fun m σ L => ∃ j, m = (listS at_).length - j ∧ j ≤ (listS at_).length ∧ Has σ [(3, .pointer (some ⟨g3, 0, none⟩)), (9, .pointer (some ⟨g9, 0, none⟩)), (10, .pointer (some ⟨g, 0, none⟩)), (11, .pointer (some ⟨g11, 0, none⟩)), (37, .slice A (listS at_).length c), (38, .int .i64 (listS at_).length), (39, .int .i64 j)] ∧ L = [row (.slice A (listS at_).length c) 3 1 (listS at_).length (intsN (listS at_)), blk g11 (.cells (enc (nextL f.terms at_ ((listS at_).take j))) 27), blk g (.cells (enc at_) 27), blk g9 (.cells (enc op) 27), blk g3 (.cells f.cells.toArray 38)]) (n := (listS at_).length) ⟨0, rfl, Nat.zero_le _, ⟨rfl, rfl, rfl, rfl, rfl, rfl, rfl, trivial⟩, rfl⟩ ?_
    rintro _ σ L ⟨j, rfl, hj, hs, rfl⟩
    refine Cd.has hs ?_
    refine Cd.seq ?_
    refine Cd.region ?_
    refine Ol.p lsi ?_
    refine Ol.nil ?_
    refine Cd.seq ?_
    refine Cd.cond rfl (fun h => ?_) (fun h => ?_)
    · have hjl : j < (listS at_).length := by simpa using h
      obtain ⟨n, hn⟩ : ∃ n, (listS at_)[j]? = some n := ⟨_, List.getElem?_eq_getElem hjl⟩
      have hnb : n < f.blocks.length := hopn n (hsub n (mem_listS.1 (List.mem_of_getElem? hn)).2)
      obtain ⟨b, hb⟩ : ∃ b, f.blocks[n]? = some b := ⟨_, List.getElem?_eq_getElem hnb⟩
      have hbm := List.mem_of_getElem? hb
      have ht : f.terms[n]? = some b.term := by simp [RFun.terms, hb]
      have htl2 := toL_len b.term
      refine Cd.skip ?_
      refine Cd.seq ?_
      refine Cd.block ?_
      refine Cd.seq ?_
      refine Cd.region ?_
      refine Ol.p (ixn1 sl_L_int (Som.row (i := 0) rfl (by omega))) ?_
      refine Ol.p (ld one_int (Rd.row (i := 0) rfl (intsN_get hn))) ?_
      refine Ol.p asi ?_
      refine Ol.nil ?_
      refine Cd.draw mixed 9 (fun q => match q with | 7 => some (NewL 3 1 (toL b.term).length (ints (toL b.term))) | 8 => some (Is (.agg (enc (withL (nextL f.terms at_ ((listS at_).take j)) (toL b.term))))) | _ => none) (fun q => match q with | 8 => [7] | _ => []) (by kernel_rfl) (by intro q V h; split at h <;> cases h; exact ⟨_, _, none, 0, rfl, rfl⟩; exact ⟨_, [], rfl, rfl⟩) (fun u hu => ?_)
      refine Wk.p (ldw ag_bits_Set (i := 1) rfl (enc_size _)) ?_
      refine Wk.p (fdl fd_api_Func_1) ?_
      refine Wk.p (ld one_L_api_Block (Rd.blk (i := 4) rfl rfl)) ?_
      refine Wk.p mvi ?_
      refine Wk.p (ixn sl_L_api_Block (Som.slc hf.blocks (by omega))) ?_
      refine Wk.p (fdp fd_api_Block_1) ?_
      refine Wk.p (lds (es := b.term.cells) ag_api_Term hf.blocks rfl (fun q u hu => by rw [Nat.add_assoc, hf.cell hb (j := 1 + q) (by have := (List.getElem?_eq_some_iff.1 hu).1; simp [Tm.cells] at this; omega), Nat.add_comm]; simpa [RBlk.cells] using hu)) ?_
      refine Wk.x hu (sp_call en_ir_To (fun M' w' hh => ir_To_ct (t := b.term))) ?_
      rintro _ _ hu7 ⟨A7, c7, rfl, rfl⟩
      refine Wk.xn hu (l := [7]) rfl (by simp) (sp_call en_bits_Set_With (fun M' w' hh => bits_Set_With_ct (s := nextL f.terms at_ ((listS at_).take j)) (l := toL b.term) (by rw [needs_cons hu7] at hh; exact Reads.row hh (i := 0) rfl) (toAt_i64 hfit hbm) (by omega))) ?_
      rintro _ _ hu8 ⟨rfl, rfl⟩
      refine Wk.nil ?_
      rw [needs_cons hu8, needs_cons hu7, needs_none]
      refine Ol.s (stw sz_bits_Set (enc_size _) (encF_one _) (i := 2) rfl (enc_size _)) ?_
      refine Ol.keep (.sub (.cons _ (List.Sublist.refl _))) ?_
      refine Ol.nil ?_
      refine Cd.region ?_
      refine Ol.p addi ?_
      refine Ol.p mvi ?_
      refine Ol.nil ?_
      refine ⟨(listS at_).length - (j + 1), by omega, j + 1, rfl, by omega, ⟨rfl, rfl, rfl, rfl, rfl, rfl, rfl, trivial⟩, ?_⟩
      rw [nextL_snoc hn, toAt_some ht]
      rfl
    have hje : j = (listS at_).length := by
      have : ¬ (j : Int) < (listS at_).length := by simpa using h
      omega
    subst hje
    rw [List.take_length]
    refine Cd.exit (id := 4) ?_
    refine Cd.seq ?_
    refine Cd.seq ?_
    refine Cd.region ?_
    refine Ol.p (ldw ag_bits_Set (i := 1) rfl (enc_size _)) ?_
    refine Ol.p (ldw ag_bits_Set (i := 3) rfl (enc_size _)) ?_
    refine Ol.s (cl en_bits_Set_And (fun M w' hh => bits_Set_And_ct (s := nextL f.terms at_ (listS at_)) (t := op))) ?_
    refine Ol.s (stw sz_bits_Set (enc_size _) (encF_one _) (i := 1) rfl (enc_size _)) ?_
    refine Ol.nil ?_
    rw [show nextL f.terms at_ (listS at_) &&& op = stepS f.terms op at_ from rfl]
    refine Cd.seq ?_
    refine Cd.region ?_
    refine Ol.p (ldw ag_bits_Set (i := 1) rfl (enc_size _)) ?_
    refine Ol.p (ldw ag_bits_Set (i := 2) rfl (enc_size _)) ?_
    refine Ol.p (eqa cm_bits_Set (enc_size _) (enc_size _) encF_tell (enc_ne (stepS_sm hatsm) hatsm)) ?_
    refine Ol.nil ?_
    refine Cd.cond rfl (fun h => ?_) (fun h => ?_)
    · have hfix : stepS f.terms op at_ = at_ := by simpa using h
      have er : reachS f.terms op s0 = at_ := by
        unfold reachS
        rw [iter_fix (k := k) (by rw [← hat]; exact hfix) 1025 (by omega), ← hat]
      rw [er]
      refine Cd.seq ?_
      refine Cd.region ?_
      refine Ol.p (ldw ag_bits_Set (i := 2) rfl (enc_size _)) ?_
      refine Ol.x (sp_call en_bits_Set_List (fun M w' hh => bits_Set_List_ct (s := at_) (hT.now hh))) ?_
      rintro _ _ ⟨_, rfl, A', c', rfl, rfl⟩
      refine Ol.p ass ?_
      refine Ol.nil ?_
      refine Cd.ret ⟨.slice _ _ _, ret1 rfl rfl, _, .sub (.cons_cons _ (List.nil_sublist _)), A', c', rfl, rfl⟩
    · have hne : stepS f.terms op at_ ≠ at_ := by simpa using h
      refine Cd.skip ?_
      refine Cd.region ?_
      refine Ol.p (ldw ag_bits_Set (i := 1) rfl (enc_size _)) ?_
      refine Ol.s (stw sz_bits_Set (enc_size _) (encF_one _) (i := 2) rfl rfl) ?_
      refine Ol.keep (.sub (.cons _ (List.Sublist.refl _))) ?_
      refine Ol.nil ?_
      exact ⟨g, g11, ⟨rfl, rfl, rfl, trivial⟩, hne, rfl⟩
  · rintro σ' _ ⟨ga, gn, hs', hne, rfl⟩
    refine Cd.has hs' ?_
    refine Cd.seq ?_
    refine Cd.region ?_
    refine Ol.p (ldw ag_bits_Set (i := 1) rfl (enc_size _)) ?_
    refine Ol.nil ?_
    refine Cd.region ?_
    refine Ol.x (alc zr_bits_Set) ?_
    rintro _ _ ⟨g10, rfl, rfl⟩
    refine Ol.s (stw sz_bits_Set (enc_size _) (encF_one _) (i := 0) rfl rfl) ?_
    refine Ol.keep (.sub (.cons_cons _ (.cons _ (.cons _ (List.Sublist.refl _))))) ?_
    refine Ol.nil ?_
    have hgrow := listS_lt (sub_step (ts := f.terms) hsub) (stepS_sm hatsm) (fun e => hne e.symm)
    have hlen2 := listS_len_le (stepS f.terms op at_)
    have hit : iterF (stepS f.terms op) (k + 1) s0 = stepS f.terms op at_ := by rw [hat]; rfl
    refine ⟨1025 - (listS (stepS f.terms op at_)).length, by omega, k + 1, g10, by rw [hit], by rw [hit]; omega, ⟨rfl, rfl, rfl, trivial⟩, by rw [hit]; exact step_sub _ _ _, by rw [hit]⟩
end
end Go.Proofs.YtbcnejobnmljlaaDoor

/- The package flow: the order of blocks, walked. -/
namespace Go.Proofs.YtbcnejobnmljlaaDoor
set_option linter.unusedVariables false
open Go Go.RowKit
set_option maxRecDepth 100000

theorem foldl_snoc {α β : Type} {f : β → α → β} {l : List α} {k : Nat} {x : α} {a : β} (h : l[k]? = some x) : (l.take (k + 1)).foldl f a = f ((l.take k).foldl f a) x := by
  rw [take_snoc_ h, List.foldl_append]; rfl
section
/-- What the walk in depth owns, and turns. -/
def LL (f : RFun) (gG gF gT gN gO gr : Nat) (st : Dst) : List Res :=
  [blk gG (.cells (enc st.1) 27), blk gF (.cells f.cells.toArray 38), blk gT (.cells #[.func (.func 55) #[] #[.pointer (some ⟨gG, 0, none⟩), .pointer (some ⟨gF, 0, none⟩), .pointer (some ⟨gT, 0, none⟩), .pointer (some ⟨gN, 0, none⟩), .pointer (some ⟨gO, 0, none⟩)]] 87),
   blk gN (.cells #[.int .i64 ((f.blocks.length - st.2.length : Nat) : Int)] 3), blk gO (.cells #[.slice (some ⟨gr, 0, none⟩) f.blocks.length f.blocks.length] 22), blk gr (.cells (outC f.blocks.length st.2) 3)]
/-- What is kept on the way. -/
structure Inv (n d : Nat) (st : Dst) : Prop where
  sm : Sm st.1
  len : st.2.length + d ≤ card st.1 n
set_option maxHeartbeats 1000000 in
theorem flow_Order_1_cm {w0 : World} {B : Nat} {f : RFun} {gG gF gT gN gO gr : Nat} (hf : FunAt w0 B f) (hfit : Fit f) (hcl : closed f.terms = true) : ∀ (fuel : Nat) (st : Dst) (d b : Nat), f.blocks.length - card st.1 f.blocks.length < fuel → Inv f.blocks.length d st → b < f.blocks.length →
    Cm Tryd.prog 55 #[.int .i64 (b : Int), .pointer (some ⟨gG, 0, none⟩), .pointer (some ⟨gF, 0, none⟩), .pointer (some ⟨gT, 0, none⟩), .pointer (some ⟨gN, 0, none⟩), .pointer (some ⟨gO, 0, none⟩)] w0 B (LL f gG gF gT gN gO gr st)
      (fun v L => v = .tuple #[] ∧ L = LL f gG gF gT gN gO gr (dfs f.terms fuel b st) ∧ Inv f.blocks.length d (dfs f.terms fuel b st) ∧ Sub st.1 (dfs f.terms fuel b st).1) := by
  have htl : f.terms.length = f.blocks.length := by simp [RFun.terms]
  obtain ⟨hpos, hmax, hedge⟩ := closed_len hcl
  rw [htl] at hpos hmax
  intro fuel
  induction fuel with
  | zero => intro st d b h; omega
  | succ fuel ih =>
    intro st d b hfuel hinv hb
    obtain ⟨bl, hbl⟩ : ∃ x, f.blocks[b]? = some x := ⟨_, List.getElem?_eq_getElem hb⟩
    have hbm := List.mem_of_getElem? hbl
    have ht : f.terms[b]? = some bl.term := by simp [RFun.terms, hbl]
    have hcard := card_le st.1 f.blocks.length
    refine Cm.mk Tryd.func55 rfl rfl fun M => ?_
    unfold LL
    refine Cd.seq ?_
    refine Cd.seq ?_
    refine Cd.region ?_
    refine Ol.p (ldw ag_bits_Set (i := 0) rfl (enc_size _)) ?_
    refine Ol.p mvi ?_
    refine Ol.s (cl en_bits_Set_Has (fun M w' hh => bits_Set_Has_ct (s := st.1) (n := (b : Int)) (by unfold I64; omega))) ?_
    refine Ol.nil ?_
    have hok : okN (b : Int) = true := by rw [okN_iff]; omega
    have hmb : memb st.1 (b : Int) = st.1.testBit b := by unfold memb; rw [hok]; rfl
    rw [hmb]
    refine Cd.cond rfl (fun h => ?_) (fun h => ?_)
    · have e : dfs f.terms (fuel + 1) b st = st := by simp only [dfs, h, cond_true]
      rw [e]
      exact Cd.ret ⟨_, ret0 rfl, _, .all, rfl, rfl, hinv, Sub.refl _⟩
    refine Cd.skip ?_
    obtain ⟨s1, hs1⟩ : ∃ s1, s1 = withL st.1 [(b : Int)] := ⟨_, rfl⟩
    have hsm1 : Sm s1 := by rw [hs1]; exact withL_sm hinv.sm
    have hgrow : card st.1 f.blocks.length < card s1 f.blocks.length := by rw [hs1]; exact card_with1 hb (by omega) h
    have hcard1 := card_le s1 f.blocks.length
    obtain ⟨to, hto⟩ : ∃ to, to = toL bl.term := ⟨_, rfl⟩
    have htoL : to.length ≤ 2 := by rw [hto]; exact toL_len _
    obtain ⟨go, hgo⟩ : ∃ go : Nat → Dst, go = fun j => (to.take j).foldl (fun st t => dfs f.terms fuel t.toNat st) (s1, st.2) := ⟨_, rfl⟩
    have e : dfs f.terms (fuel + 1) b st = ((go to.length).1, b :: (go to.length).2) := by
      simp only [dfs, h, cond_false, toAt_some ht, hgo, List.take_length, hs1, hto]
    rw [e]
    refine Cd.seq ?_
    refine Cd.region ?_
    refine Ol.p (ldw ag_bits_Set (i := 0) rfl (enc_size _)) ?_
    refine Ol.p mvi ?_
    refine Ol.x (bsv [.int .i64 (b : Int)] sl_L_int zr_int (by simp [Value.cells])) ?_
    rintro _ _ ⟨g14, rfl, rfl⟩
    refine Ol.s (cl en_bits_Set_With (fun M w' hh => bits_Set_With_ct (s := st.1) (l := [(b : Int)]) (Reads.row hh (i := 0) rfl) (by intro n hn; simp at hn; subst hn; unfold I64; omega) (by simp))) ?_
    refine Ol.s (stw sz_bits_Set (enc_size _) (encF_one _) (i := 1) rfl (enc_size _)) ?_
    refine Ol.keep (.sub (.cons _ (List.Sublist.refl _))) ?_
    refine Ol.nil ?_
    rw [← hs1]
    refine Cd.seq ?_
    refine Cd.seq ?_
    refine Cd.region ?_
    refine Ol.p (fdl fd_api_Func_1) ?_
    refine Ol.p (ld one_L_api_Block (Rd.blk (i := 1) rfl rfl)) ?_
    refine Ol.p mvi ?_
    refine Ol.p (ixn sl_L_api_Block (Som.slc hf.blocks (by omega))) ?_
    refine Ol.p (fdp fd_api_Block_1) ?_
    refine Ol.p (lds (es := bl.term.cells) ag_api_Term hf.blocks rfl (fun q u hu => by rw [Nat.add_assoc, hf.cell hbl (j := 1 + q) (by have := (List.getElem?_eq_some_iff.1 hu).1; simp [Tm.cells] at this; omega), Nat.add_comm]; simpa [RBlk.cells] using hu)) ?_
    refine Ol.x (sp_call en_ir_To (fun M' w' hh => ir_To_ct (t := bl.term))) ?_
    rintro _ _ ⟨_, rfl, A, c, rfl, rfl⟩
    refine Ol.p (lens sl_L_int) ?_
    refine Ol.p mvi ?_
    refine Ol.nil ?_
    rw [← hto]
    refine Cd.block ?_
    refine Cd.loop (fun m σ L => ∃ j, m = to.length - j ∧ j ≤ to.length ∧ Has σ [(0, .int .i64 (b : Int)), (3, .pointer (some ⟨gT, 0, none⟩)), (4, .pointer (some ⟨gN, 0, none⟩)), (5, .pointer (some ⟨gO, 0, none⟩)), (22, .slice A to.length c), (23, .int .i64 to.length), (24, .int .i64 j)] ∧ L = [row (.slice A to.length c) 3 1 to.length (ints to)] ++ LL f gG gF gT gN gO gr (go j) ∧ Inv f.blocks.length (d + 1) (go j) ∧ Sub s1 (go j).1) (n := to.length) ⟨0, rfl, Nat.zero_le _, ⟨rfl, rfl, rfl, rfl, rfl, rfl, rfl, trivial⟩, by rw [hgo]; rfl, by rw [hgo]; exact ⟨hsm1, by have := hinv.len; show st.2.length + (d + 1) ≤ card s1 f.blocks.length; omega⟩, by rw [hgo]; exact Sub.refl _⟩ ?_
    rintro _ σ L ⟨j, rfl, hj, hs, rfl, hinv1, hsub1⟩
    refine Cd.has hs ?_
    refine Cd.seq ?_
    refine Cd.region ?_
    refine Ol.p lsi ?_
    refine Ol.nil ?_
    refine Cd.seq ?_
    refine Cd.cond rfl (fun h => ?_) (fun h => ?_)
    · have hjl : j < to.length := by simpa using h
      have hget := ints_get hjl
      have hte : (⟨(b : Int), (j : Int), to[j]⟩ : Ed) ∈ edges f.terms := mem_edges.2 ⟨b, j, bl.term, ht, by rw [← hto]; exact List.getElem?_eq_getElem hjl, rfl, rfl⟩
      have hrng := hedge _ hte
      rw [htl] at hrng
      obtain ⟨q, hq⟩ : ∃ q : Nat, to[j] = (q : Int) := ⟨to[j].toNat, by have : 0 ≤ to[j] := hrng.1; omega⟩
      have hqb : q < f.blocks.length := by have : to[j] < (f.blocks.length : Int) := hrng.2; rw [hq] at this; omega
      have hgo1 : go (j + 1) = dfs f.terms fuel q (go j) := by
        rw [hgo]
        show (to.take (j + 1)).foldl _ _ = _
        rw [foldl_snoc (List.getElem?_eq_getElem hjl), hq]; rfl
      have hfuel1 : f.blocks.length - card (go j).1 f.blocks.length < fuel := by have := card_mono (n := f.blocks.length) hsub1; omega
      rw [hq] at hget
      refine Cd.skip ?_
      refine Cd.seq ?_
      refine Cd.block ?_
      refine Cd.seq ?_
      refine Cd.region ?_
      refine Ol.p (ixn1 sl_L_int (Som.row (i := 0) rfl (by omega))) ?_
      refine Ol.p (ld one_int (Rd.row (i := 0) rfl hget)) ?_
      refine Ol.p asi ?_
      refine Ol.nil ?_
      refine Cd.region ?_
      refine Ol.p (ldv one_func_int (i := 3) rfl) ?_
      refine Ol.p mvi ?_
      refine Ol.x (sp_callvw (vs := [.int .i64 (q : Int)]) (L2 := [row (.slice A to.length c) 3 1 to.length (ints to)]) en_flow_Order_1 (ih (go j) (d + 1) q hfuel1 hinv1 hqb) List.perm_append_comm) ?_
      rintro _ _ ⟨_, rfl, rfl, rfl, hinv2, hsub2⟩
      refine Ol.keep Keep.comm ?_
      refine Ol.nil ?_
      refine Cd.region ?_
      refine Ol.p addi ?_
      refine Ol.p mvi ?_
      refine Ol.nil ?_
      rw [← hgo1] at hinv2 hsub2 ⊢
      exact ⟨to.length - (j + 1), by omega, j + 1, rfl, by omega, ⟨rfl, rfl, rfl, rfl, rfl, rfl, rfl, trivial⟩, rfl, hinv2, hsub1.trans hsub2⟩
    · have hje : j = to.length := by
        have : ¬ (j : Int) < to.length := by simpa using h
        omega
      subst hje
      have hl := hinv1.len
      have hcg := card_le (go to.length).1 f.blocks.length
      refine Cd.keep (L' := LL f gG gF gT gN gO gr (go to.length)) (.sub (.cons _ (List.Sublist.refl _))) ?_
      unfold LL
      refine Cd.exit (id := 0) ?_
      refine Cd.seq ?_
      refine Cd.region ?_
      refine Ol.p (ldv one_int (i := 3) rfl) ?_
      refine Ol.p subi ?_
      refine Ol.s (stv (v := .int .i64 ((f.blocks.length - ((go to.length).2.length + 1) : Nat) : Int)) sz_int (i := 3) rfl (by show Value.int .i64 _ = Value.int .i64 _; congr 1; omega)) ?_
      refine Ol.nil ?_
      refine Cd.region ?_
      refine Ol.p (ldv one_L_int (i := 4) rfl) ?_
      refine Ol.p (ldv one_int (i := 3) rfl) ?_
      refine Ol.p mvi ?_
      refine Ol.p (ixo1 (ix := f.blocks.length - ((go to.length).2.length + 1)) sl_L_int) ?_
      refine Ol.s (sto (k := f.blocks.length - ((go to.length).2.length + 1)) (v := .int .i64 (b : Int)) (.inr sz_int) rfl rfl (i := 5) rfl (by rw [outC_size (by omega)]; omega) rfl) ?_
      refine Ol.nil ?_
      refine ⟨_, ret0 rfl, _, .all, rfl, ?_, ⟨hinv1.sm, ?_⟩, ?_⟩
      · rw [← outC_cons (by omega)]
        rfl
      · show ((go to.length).2.length + 1) + d ≤ card (go to.length).1 f.blocks.length
        omega
      · rw [hs1] at hsub1
        exact (sub_with1 _ _).trans hsub1
set_option maxHeartbeats 1000000 in
/-- The same, its room not less than its length. -/
def PartQ (e n : Nat) (xs : List Value) : Value → List Res → Prop := fun v L => (n = 0 ∧ xs = [] ∧ v = .slice none 0 0 ∧ L = []) ∨ ∃ g k c cs, v = .slice (some ⟨g, k, none⟩) n c ∧ L = [blk g (.cells cs e)] ∧ xs.length = n ∧ n ≤ c ∧ ∀ j u, xs[j]? = some u → cs[k + j]? = some u
theorem PartQ.part {e n : Nat} {xs : List Value} {v : Value} {L : List Res} (h : PartQ e n xs v L) : PartL e n xs v L := by
  rcases h with h | ⟨g, k, c, cs, h1, h2, h3, _, h4⟩
  · exact .inl h
  · exact .inr ⟨g, k, c, cs, h1, h2, h3, h4⟩
theorem flow_Order_ct2 {w : World} {f : RFun} (hf : FunAt w w.heap.size f) (hfit : Fit f) : Ct Tryd.prog 25 #[f.val] w (PartQ 3 (orderF f.terms).length (intsN (orderF f.terms))) := by
  have hbl := hfit.blen
  have htl : f.terms.length = f.blocks.length := by simp [RFun.terms]
  refine Ct.mk Tryd.func25 rfl rfl ?_
  refine Cd.seq ?_
  refine Cd.region ?_
  refine Ol.x bxg ?_
  rintro _ _ ⟨g1, rfl, rfl⟩
  refine Ol.p ass ?_
  refine Ol.nil ?_
  refine Cd.seq ?_
  refine Cd.seq ?_
  refine Cd.region ?_
  refine Ol.p (ldw ag_api_Func (i := 0) rfl rfl) ?_
  refine Ol.s (cl en_flow_Closed (fun M w' hh => flow_Closed_ct (hf.now hh) hfit)) ?_
  refine Ol.p noti ?_
  refine Ol.nil ?_
  refine Cd.cond rfl (fun h => ?_) (fun h => ?_)
  · have hcl : closed f.terms = false := by simpa using h
    have e : orderF f.terms = [] := by unfold orderF; rw [hcl]; rfl
    rw [e]
    refine Cd.seq ?_
    refine Cd.region ?_
    refine Ol.p ass ?_
    refine Ol.nil ?_
    exact Cd.ret ⟨.slice none 0 0, ret1 rfl rfl, [], .nil, .inl ⟨rfl, rfl, rfl, rfl⟩⟩
  have hcl : closed f.terms = true := by simpa using h
  obtain ⟨hpos, hmax, hedge⟩ := closed_len hcl
  rw [htl] at hpos hmax
  obtain ⟨st, hst⟩ : ∃ st, st = dfs f.terms (f.blocks.length + 1) 0 (0, []) := ⟨_, rfl⟩
  have eo : orderF f.terms = st.2 := by unfold orderF; rw [hcl, htl, hst]; rfl
  have hlen1 : 0 < st.2.length := by
    rw [hst]
    simp [dfs]
  rw [eo]
  refine Cd.skip ?_
  refine Cd.seq ?_
  refine Cd.region ?_
  refine Ol.x (alc zr_bits_Set) ?_
  rintro _ _ ⟨g3, rfl, rfl⟩
  refine Ol.nil ?_
  refine Cd.seq ?_
  refine Cd.region ?_
  refine Ol.p (fdl fd_api_Func_1) ?_
  refine Ol.p (ld one_L_api_Block (Rd.blk (i := 1) rfl rfl)) ?_
  refine Ol.p (lens sl_L_api_Block) ?_
  refine Ol.x (mks sl_L_int zr_int) ?_
  rintro _ _ ⟨gr, rfl, rfl⟩
  refine Ol.unrow fun cs hcs hcx => ?_
  have hcs' : cs = outC f.blocks.length [] := outC_nil _ hcs hcx
  rw [hcs']
  refine Ol.x (alc zr_L_int) ?_
  rintro _ _ ⟨g4, rfl, rfl⟩
  refine Ol.s (stv sz_L_int (i := 0) rfl rfl) ?_
  refine Ol.nil ?_
  refine Cd.seq ?_
  refine Cd.region ?_
  refine Ol.p (ldv one_L_int (i := 0) rfl) ?_
  refine Ol.p (lens sl_L_int) ?_
  refine Ol.x (alc zr_int) ?_
  rintro _ _ ⟨g5, rfl, rfl⟩
  refine Ol.s (stv sz_int (i := 0) rfl rfl) ?_
  refine Ol.nil ?_
  refine Cd.seq ?_
  refine Cd.region ?_
  refine Ol.x (alc zr_func_int) ?_
  rintro _ _ ⟨g6, rfl, rfl⟩
  refine Ol.nil ?_
  refine Cd.seq ?_
  refine Cd.region ?_
  refine Ol.p mkf ?_
  refine Ol.s (stv sz_func_int (i := 0) rfl rfl) ?_
  refine Ol.nil ?_
  refine Cd.seq ?_
  refine Cd.region ?_
  refine Ol.p (ldv one_func_int (i := 0) rfl) ?_
  refine Ol.x (sp_callvw (vs := [.int .i64 ((0 : Nat) : Int)]) (L2 := []) en_flow_Order_1 (flow_Order_1_cm (gG := g3) (gF := g1) (gT := g6) (gN := g5) (gO := g4) (gr := gr) hf hfit hcl (f.blocks.length + 1) (0, []) 0 0 (by omega) ⟨zero_sm, by simp⟩ hpos) (by rw [List.append_nil]; unfold LL; rw [enc0]; exact List.perm_append_comm (l₁ := [_, _, _, _]) (l₂ := [_, _])) (hargs := rfl)) ?_
  rintro _ _ ⟨_, rfl, rfl, rfl, hinv, _⟩
  refine Ol.nil ?_
  rw [← hst] at hinv ⊢
  have hl := hinv.len
  have hcg := card_le st.1 f.blocks.length
  unfold LL
  refine Cd.seq ?_
  refine Cd.region ?_
  refine Ol.p (ldv one_L_int (i := 4) rfl) ?_
  refine Ol.p (ldv one_int (i := 3) rfl) ?_
  refine Ol.p (slo (n := f.blocks.length) (c := f.blocks.length) sl_L_int (l := f.blocks.length - st.2.length) (by omega) (by omega)) ?_
  refine Ol.p ass ?_
  refine Ol.nil ?_
  rw [show f.blocks.length - (f.blocks.length - st.2.length) = st.2.length by omega]
  refine Cd.ret ⟨.slice _ _ _, ret1 rfl rfl, _, .sub (.cons _ (.cons _ (.cons _ (.cons _ (.cons _ (.cons_cons _ .slnil)))))), .inr ⟨gr, _, _, _, rfl, rfl, by simp [intsN], Nat.le_refl _, fun j u hu => ?_⟩⟩
  unfold outC
  rw [Nat.zero_add, Nat.mul_one]
  simp only [List.getElem?_toArray]
  rw [List.getElem?_append_right (by simp)]
  simpa using hu
theorem flow_Order_ct {w : World} {f : RFun} (hf : FunAt w w.heap.size f) (hfit : Fit f) : Ct Tryd.prog 25 #[f.val] w (PartL 3 (orderF f.terms).length (intsN (orderF f.terms))) :=
  (flow_Order_ct2 hf hfit).mono fun _ _ h => h.part
end
end Go.Proofs.YtbcnejobnmljlaaDoor

/- Counts of edges, their order, unions of what is reached: plain laws. -/
namespace Go.Proofs.YtbcnejobnmljlaaDoor
set_option linter.unusedVariables false
set_option maxRecDepth 10000
open Go Go.RowKit

theorem filter_len_split {α : Type} {l : List α} {p q r : α → Bool} (h : ∀ x ∈ l, r x = (p x || q x)) (hd : ∀ x ∈ l, (p x && q x) = false) : (l.filter r).length = (l.filter p).length + (l.filter q).length := by
  induction l with
  | nil => rfl
  | cons a l ih =>
    have ih := ih (fun x hx => h x (by simp [hx])) (fun x hx => hd x (by simp [hx]))
    have h1 := h a (by simp)
    have h2 := hd a (by simp)
    simp only [List.filter_cons, h1]
    cases hp : p a <;> cases hq : q a <;> simp [hp, hq] at h2 ⊢ <;> omega
theorem someE_len_split {ts : List Tm} {p q r : Ed → Bool} (h : ∀ x ∈ edges ts, r x = (p x || q x)) (hd : ∀ x ∈ edges ts, (p x && q x) = false) : (someE ts r).length = (someE ts p).length + (someE ts q).length := by
  unfold someE
  cases closed ts with
  | false => rfl
  | true => exact filter_len_split h hd
theorem src_range {ts : List Tm} {e : Ed} (he : e ∈ edges ts) : 0 ≤ e.src ∧ e.src < ts.length ∧ 0 ≤ e.arm ∧ e.arm < 2 := by
  obtain ⟨k, j, t, hk, hj, h1, h2⟩ := mem_edges.1 he
  have := (List.getElem?_eq_some_iff.1 hk).1
  have h3 := (List.getElem?_eq_some_iff.1 hj).1
  have := toL_len t
  omega
def outTo (ts : List Tm) (k : Nat) : Nat := (someE ts fun e => decide (e.src < (k : Int))).length
def inTo (ts : List Tm) (k : Nat) : Nat := (someE ts fun e => decide (e.to < (k : Int))).length
theorem outTo_zero (ts : List Tm) : outTo ts 0 = 0 := by
  unfold outTo someE
  cases hc : closed ts with
  | false => rfl
  | true =>
    rw [cond_true, List.length_eq_zero_iff, List.filter_eq_nil_iff]
    intro e he
    have := src_range he
    simp; omega
theorem inTo_zero (ts : List Tm) : inTo ts 0 = 0 := by
  unfold inTo someE
  cases hc : closed ts with
  | false => rfl
  | true =>
    rw [cond_true, List.length_eq_zero_iff, List.filter_eq_nil_iff]
    intro e he
    have := (closed_len hc).2.2 e he
    simp; omega
theorem outTo_succ (ts : List Tm) (k : Nat) : outTo ts (k + 1) = outTo ts k + (someE ts fun e => decide (e.src = (k : Int))).length :=
  someE_len_split (fun e he => by
    by_cases h1 : e.src < (k : Int) <;> by_cases h2 : e.src = (k : Int) <;> simp [h1, h2] <;> omega) (fun e he => by
    by_cases h1 : e.src < (k : Int) <;> by_cases h2 : e.src = (k : Int) <;> simp [h1, h2] <;> omega)
theorem inTo_succ (ts : List Tm) (k : Nat) : inTo ts (k + 1) = inTo ts k + (someE ts fun e => decide (e.to = (k : Int))).length :=
  someE_len_split (fun e he => by
    by_cases h1 : e.to < (k : Int) <;> by_cases h2 : e.to = (k : Int) <;> simp [h1, h2] <;> omega) (fun e he => by
    by_cases h1 : e.to < (k : Int) <;> by_cases h2 : e.to = (k : Int) <;> simp [h1, h2] <;> omega)
theorem outTo_all (ts : List Tm) : outTo ts ts.length = (someE ts fun _ => true).length := by
  unfold outTo someE
  cases hc : closed ts with
  | false => rfl
  | true =>
    rw [cond_true, cond_true]
    congr 1
    apply List.filter_congr
    intro e he
    have := src_range he
    simp; omega
theorem inTo_all (ts : List Tm) : inTo ts ts.length = (someE ts fun _ => true).length := by
  unfold inTo someE
  cases hc : closed ts with
  | false => rfl
  | true =>
    rw [cond_true, cond_true]
    congr 1
    apply List.filter_congr
    intro e he
    have := (closed_len hc).2.2 e he
    simp; omega
theorem someE_len_le (ts : List Tm) (p : Ed → Bool) : (someE ts p).length ≤ 400 := by
  unfold someE
  cases hc : closed ts with
  | false => simp
  | true =>
    rw [cond_true]
    have h1 := (closed_le hc).2
    have h2 := edgesTo_len_le ts ts.length
    have h3 := List.length_filter_le p (edges ts)
    unfold edges at h3 ⊢
    omega
theorem outTo_le (ts : List Tm) (k : Nat) : outTo ts k ≤ 400 := someE_len_le _ _
theorem inTo_le (ts : List Tm) (k : Nat) : inTo ts k ≤ 400 := someE_len_le _ _
theorem crit_iff {ts : List Tm} (hc : closed ts = true) (e : Ed) : critE ts e = (decide (1 < (someE ts fun x => decide (x.src = e.src)).length) && decide (1 < (someE ts fun x => decide (x.to = e.to)).length)) := by
  have key : ∀ (g : Ed → Int) (n : Int), cnt ((edges ts).map g) n = ((edges ts).filter fun x => decide (g x = n)).length := fun g n => by
    unfold cnt
    rw [List.count_eq_countP, List.countP_map, List.countP_eq_length_filter]
    congr 1
  unfold critE someE
  rw [key, key, hc, cond_true, cond_true, Bool.and_comm]
/-- The critical edges among the first ones. -/
def critTo (ts : List Tm) (k : Nat) : List Ed := ((someE ts fun _ => true).take k).filter (critE ts)
theorem critTo_le (ts : List Tm) (k : Nat) : (critTo ts k).length ≤ 400 := Nat.le_trans (List.length_filter_le _ _) (by
  rw [List.length_take]
  exact Nat.le_trans (Nat.min_le_right _ _) (someE_len_le _ _))
theorem critTo_all (ts : List Tm) : critTo ts (someE ts fun _ => true).length = someE ts (critE ts) := by
  unfold critTo
  rw [List.take_length]
  unfold someE
  cases hc : closed ts with
  | false => rfl
  | true => simp
theorem critTo_succ {ts : List Tm} {k : Nat} {e : Ed} (h : (someE ts fun _ => true)[k]? = some e) : critTo ts (k + 1) = critTo ts k ++ (if critE ts e = true then [e] else []) := by
  unfold critTo
  rw [take_snoc_ h, List.filter_append]
  congr 1
  by_cases hp : critE ts e = true <;> simp [hp]
theorem critTo_get {ts : List Tm} {k : Nat} {e : Ed} (h : (someE ts fun _ => true)[k]? = some e) (hc : critE ts e = true) : (someE ts (critE ts))[(critTo ts k).length]? = some e := by
  have h1 := critTo_succ h
  rw [if_pos hc] at h1
  have hk := (List.getElem?_eq_some_iff.1 h).1
  have hpre : critTo ts (someE ts fun _ => true).length = critTo ts (k + 1) ++ ((someE ts fun _ => true).drop (k + 1)).filter (critE ts) := by
    unfold critTo
    rw [List.take_length, ← List.filter_append, List.take_append_drop]
  rw [← critTo_all, hpre, h1, List.append_assoc, List.getElem?_append_right (Nat.le_refl _)]
  simp
theorem edgesTo_src {ts : List Tm} {k : Nat} {e : Ed} (h : e ∈ edgesTo ts k) : e.src < (k : Int) := by
  unfold edgesTo edgesB at h
  simp only [List.mem_flatMap, Prod.exists, List.mem_map, List.mem_zipIdx_iff_getElem?] at h
  obtain ⟨t, i, hi, n, j, hj, rfl⟩ := h
  have := (List.getElem?_eq_some_iff.1 hi).1
  simp at this ⊢
  omega
def EdLt (a b : Ed) : Prop := a.src < b.src ∨ (a.src = b.src ∧ a.arm < b.arm)
theorem edges_sorted (ts : List Tm) : (edges ts).Pairwise EdLt := by
  have key : ∀ k, k ≤ ts.length → (edgesTo ts k).Pairwise EdLt := by
    intro k
    induction k with
    | zero => intro _; simp [edgesTo]
    | succ k ih =>
      intro hk
      rw [edgesTo_succ (List.getElem?_eq_getElem (show k < ts.length by omega)), List.pairwise_append]
      refine ⟨ih (by omega), ?_, fun a ha b hb => .inl ?_⟩
      · rw [List.pairwise_iff_getElem]
        intro i j hi hj hij
        right
        simp [edgesB]
        omega
      · have h1 := edgesTo_src ha
        unfold edgesB at hb
        simp only [List.mem_map] at hb
        obtain ⟨x, _, rfl⟩ := hb
        exact h1
  exact key ts.length (Nat.le_refl _)
theorem edges_next {ts : List Tm} {k : Nat} {a b : Ed} (ha : (someE ts fun _ => true)[k]? = some a) (hb : (someE ts fun _ => true)[k + 1]? = some b) : EdLt a b := by
  have hs : (someE ts fun _ => true).Pairwise EdLt := by
    unfold someE
    cases closed ts with
    | false => exact .nil
    | true => rw [cond_true]; exact (edges_sorted ts).filter _
  obtain ⟨h1, rfl⟩ := List.getElem?_eq_some_iff.1 ha
  obtain ⟨h2, rfl⟩ := List.getElem?_eq_some_iff.1 hb
  exact List.pairwise_iff_getElem.1 hs k (k + 1) h1 h2 (by omega)
theorem edV_get {l : List Ed} {k : Nat} {e : Ed} (h : l[k]? = some e) {j : Nat} {u : Value} (hj : e.cells[j]? = some u) : (edV l)[k * 3 + j]? = some u := by
  have hl := (List.getElem?_eq_some_iff.1 hj).1
  unfold edV
  rw [flat_get Ed.len _ _ _ _ h hl]
  exact hj
theorem reached_none {ts : List Tm} {fr nt : List Int} (hc : closed ts = false) : reachedF ts fr nt = [] := by unfold reachedF; rw [hc]; rfl
theorem reached_union {ts : List Tm} {fr more : List Int} (i : Nat) : i ∈ reachedF ts (fr ++ more) [] ↔ i ∈ reachedF ts fr [] ∨ i ∈ reachedF ts more [] := by
  cases hc : closed ts with
  | false => simp [reached_none hc]
  | true =>
    rw [mem_reachedF hc, mem_reachedF hc, mem_reachedF hc]
    constructor
    · rintro ⟨a, h1, h2, h3⟩
      rcases List.mem_append.1 h2 with h2 | h2
      · exact .inl ⟨a, h1, h2, h3⟩
      · exact .inr ⟨a, h1, h2, h3⟩
    · rintro (⟨a, h1, h2, h3⟩ | ⟨a, h1, h2, h3⟩)
      · exact ⟨a, h1, by simp [h2], h3⟩
      · exact ⟨a, h1, by simp [h2], h3⟩
end Go.Proofs.YtbcnejobnmljlaaDoor

/- How great a function is: walked. -/
namespace Go.Proofs.YtbcnejobnmljlaaDoor
set_option linter.unusedVariables false
open Go Go.RowKit
set_option maxRecDepth 100000

def argSum (l : List RIns) : Nat := (l.map fun i => i.args.length).sum
def bsz (b : RBlk) : Nat := 1 + b.ins.length + argSum b.ins
def blocksSz (l : List RBlk) : Nat := (l.map bsz).sum
def RFun.sz (f : RFun) : Nat := f.params.length + blocksSz f.blocks
theorem argSum_snoc {l : List RIns} {k : Nat} {i : RIns} (h : l[k]? = some i) : argSum (l.take (k + 1)) = argSum (l.take k) + i.args.length := by
  unfold argSum
  rw [take_snoc_ h, List.map_append, List.sum_append]; simp
theorem blocksSz_snoc {l : List RBlk} {k : Nat} {b : RBlk} (h : l[k]? = some b) : blocksSz (l.take (k + 1)) = blocksSz (l.take k) + bsz b := by
  unfold blocksSz
  rw [take_snoc_ h, List.map_append, List.sum_append]; simp
theorem blocksSz_mem {l : List RBlk} {b : RBlk} (h : b ∈ l) : bsz b ≤ blocksSz l := by
  unfold blocksSz
  induction l with
  | nil => cases h
  | cons c l ih =>
    simp only [List.map_cons, List.sum_cons]
    rcases List.mem_cons.1 h with rfl | h
    · omega
    · have := ih h; omega
theorem blocksSz_len (l : List RBlk) : l.length ≤ blocksSz l := by
  unfold blocksSz
  induction l with
  | nil => simp
  | cons b l ih => simp [bsz]; omega
/-- What is counted: all, or more than the bound. -/
def Counted (n most total : Nat) : Prop := (n ≤ most → n = total) ∧ n < 2 ^ 55
theorem counted_ex {most : Nat} (hm : most < 2 ^ 40) (t : Nat) : ∃ n, Counted n most t := by
  rcases Nat.lt_or_ge most t with h | h
  · exact ⟨most + 1, fun h' => by omega, by omega⟩
  · exact ⟨t, fun _ => rfl, by omega⟩
section
set_option maxHeartbeats 1000000 in
theorem kit_BlocksOf_ct {w : World} {f : RFun} {most : Nat} (hf : FunAt w w.heap.size f) (hfit : Fit f) (hm : most < 2 ^ 40) : Ct Tryd.prog 54 #[.slice f.bA f.blocks.length f.bC, .int .i64 most] w (fun v R => ∃ n : Nat, v = .int .i64 n ∧ Counted n most (blocksSz f.blocks) ∧ R = []) := by
  have hbl := hfit.blen
  refine Ct.mk Tryd.func54 rfl rfl ?_
  refine Cd.seq ?_
  refine Cd.region ?_
  refine Ol.p asi ?_
  refine Ol.nil ?_
  refine Cd.seq ?_
  refine Cd.region ?_
  refine Ol.p asi ?_
  refine Ol.nil ?_
  refine Cd.seq ?_
  refine Cd.seq ?_
  refine Cd.region ?_
  refine Ol.p asi ?_
  refine Ol.nil ?_
  refine Cd.block ?_
  refine Cd.loop (fun m σ L => ∃ k n : Nat, m = f.blocks.length - k ∧ k ≤ f.blocks.length ∧ Has σ [(0, .slice f.bA f.blocks.length f.bC), (1, .int .i64 most), (5, .int .i64 n), (6, .int .i64 k)] ∧ L = [] ∧ Counted n most (blocksSz (f.blocks.take k))) (n := f.blocks.length) ⟨0, 0, rfl, Nat.zero_le _, ⟨rfl, rfl, rfl, rfl, trivial⟩, rfl, fun _ => rfl, by decide⟩ ?_
  rintro _ σ L ⟨k, n, rfl, hk, hs, rfl, hn⟩
  obtain ⟨hn1, hn2⟩ := hn
  refine Cd.has hs ?_
  refine Cd.seq ?_
  refine Cd.seq ?_
  cases h4 : decide ((k : Int) < (f.blocks.length : Int)) with
  | true =>
    have hlt : k < f.blocks.length := by simpa using h4
    obtain ⟨b, hb⟩ : ∃ b, f.blocks[k]? = some b := ⟨_, List.getElem?_eq_getElem hlt⟩
    have hbm : b ∈ f.blocks := List.mem_of_getElem? hb
    have hil := hfit.ilen b hbm
    have hins := hf.ins b hbm
    have hsl : Som w w.heap.size ([] : List Res) f.bA := Som.slc hf.blocks (by omega)
    have hc0 : (f.blocks.flatMap RBlk.cells)[k * 5 + 0]? = some (.slice b.iA b.ins.length b.iC) := hf.cell hb (by decide)
    refine Cd.region ?_
    refine Ol.p mvi ?_
    refine Ol.p mvs ?_
    refine Ol.p (lens sl_L_api_Block) ?_
    refine Ol.p lsi ?_
    refine Ol.p mvb ?_
    refine Ol.gp h4 mvi ?_
    refine Ol.gp h4 mvi ?_
    refine Ol.gp h4 lei ?_
    refine Ol.p (pkTb h4) ?_
    refine Ol.nil ?_
    refine Cd.cond rfl (fun h => ?_) (fun h => ?_)
    · have hle : n ≤ most := by simpa using h
      have hne := hn1 hle
      refine Cd.skip ?_
      refine Cd.mid (fun σ' L' => ∃ n' : Nat, Has σ' [(0, .slice f.bA f.blocks.length f.bC), (1, .int .i64 most), (5, .int .i64 n'), (6, .int .i64 k)] ∧ L' = [] ∧ Counted n' most (blocksSz (f.blocks.take (k + 1)))) ?_ ?_
      · refine Cd.block ?_
        refine Cd.seq ?_
        refine Cd.region ?_
        refine Ol.p mvi ?_
        refine Ol.p addi ?_
        refine Ol.p mvs ?_
        refine Ol.p mvi ?_
        refine Ol.p (ixn sl_L_api_Block hsl) ?_
        refine Ol.p (fdp fd_api_Block_0) ?_
        refine Ol.p (ld one_L_api_Ins (Rd.slc hf.blocks hc0)) ?_
        refine Ol.p (lens sl_L_api_Ins) ?_
        refine Ol.p addi ?_
        refine Ol.p asi ?_
        refine Ol.nil ?_
        refine Cd.seq ?_
        refine Cd.region ?_
        refine Ol.p asi ?_
        refine Ol.nil ?_
        refine Cd.block ?_
        refine Cd.loop (fun m σ L => ∃ j n : Nat, m = b.ins.length - j ∧ j ≤ b.ins.length ∧ Has σ [(0, .slice f.bA f.blocks.length f.bC), (1, .int .i64 most), (5, .int .i64 n), (6, .int .i64 k), (7, .int .i64 j)] ∧ L = [] ∧ (n ≤ most → n = blocksSz (f.blocks.take k) + 1 + b.ins.length + argSum (b.ins.take j)) ∧ n < 2 ^ 55 ∧ (j = 0 → n ≤ most + 1 + b.ins.length)) (n := b.ins.length) ⟨0, n + 1 + b.ins.length, rfl, Nat.zero_le _, ⟨rfl, rfl, rfl, rfl, rfl, trivial⟩, rfl, fun _ => by rw [hne]; rfl, by omega, fun _ => by omega⟩ ?_
        rintro _ σ L ⟨j, n, rfl, hj, hs, rfl, hq1, hq2, hq3⟩
        refine Cd.has hs ?_
        refine Cd.seq ?_
        refine Cd.seq ?_
        cases h8 : decide ((j : Int) < (b.ins.length : Int)) with
        | true =>
          have hjl : j < b.ins.length := by simpa using h8
          obtain ⟨i, hi⟩ : ∃ i, b.ins[j]? = some i := ⟨_, List.getElem?_eq_getElem hjl⟩
          have him : i ∈ b.ins := List.mem_of_getElem? hi
          have hal := hfit.alen b hbm i him
          have hc6 : (b.ins.flatMap RIns.cells)[j * 8 + 6]? = some (.slice i.aA i.args.length i.aC) := flat_get RIns.len _ _ _ _ hi (by decide)
          refine Cd.region ?_
          refine Ol.p mvi ?_
          refine Ol.p mvs ?_
          refine Ol.p mvi ?_
          refine Ol.p (ixn sl_L_api_Block hsl) ?_
          refine Ol.p (fdp fd_api_Block_0) ?_
          refine Ol.p (ld one_L_api_Ins (Rd.slc hf.blocks hc0)) ?_
          refine Ol.p (lens sl_L_api_Ins) ?_
          refine Ol.p lsi ?_
          refine Ol.p mvb ?_
          refine Ol.gp h8 mvi ?_
          refine Ol.gp h8 mvi ?_
          refine Ol.gp h8 lei ?_
          refine Ol.p (pkTb h8) ?_
          refine Ol.nil ?_
          refine Cd.cond rfl (fun h => ?_) (fun h => ?_)
          · have hle : n ≤ most := by simpa using h
            refine Cd.skip ?_
            refine Cd.seq ?_
            refine Cd.block ?_
            refine Cd.region ?_
            refine Ol.p mvi ?_
            refine Ol.p mvs ?_
            refine Ol.p mvi ?_
            refine Ol.p (ixn sl_L_api_Block hsl) ?_
            refine Ol.p (fdp fd_api_Block_0) ?_
            refine Ol.p (ld one_L_api_Ins (Rd.slc hf.blocks hc0)) ?_
            refine Ol.p mvi ?_
            refine Ol.p (ixn sl_L_api_Ins (Som.slc hins (by omega))) ?_
            refine Ol.p (fdp fd_api_Ins_6) ?_
            refine Ol.p (ld one_L_int (Rd.slc hins hc6)) ?_
            refine Ol.p (lens sl_L_int) ?_
            refine Ol.p addi ?_
            refine Ol.p asi ?_
            refine Ol.nil ?_
            refine Cd.region ?_
            refine Ol.p mvi ?_
            refine Ol.p addi ?_
            refine Ol.p asi ?_
            refine Ol.nil ?_
            refine ⟨b.ins.length - (j + 1), by omega, j + 1, n + i.args.length, rfl, by omega, ⟨rfl, rfl, rfl, rfl, rfl, trivial⟩, rfl, fun h' => ?_, by omega, fun h' => by omega⟩
            rw [argSum_snoc hi, hq1 hle]
            omega
          · have hgt : most < n := by
              have : ¬ (n : Int) ≤ most := by simpa using h
              omega
            refine Cd.exit (id := 2) ?_
            exact ⟨n, ⟨rfl, rfl, rfl, rfl, trivial⟩, rfl, fun h' => by omega, hq2⟩
        | false =>
          have hje : j = b.ins.length := by
            have : ¬ (j : Int) < b.ins.length := by simpa using h8
            omega
          refine Cd.region ?_
          refine Ol.p mvi ?_
          refine Ol.p mvs ?_
          refine Ol.p mvi ?_
          refine Ol.p (ixn sl_L_api_Block hsl) ?_
          refine Ol.p (fdp fd_api_Block_0) ?_
          refine Ol.p (ld one_L_api_Ins (Rd.slc hf.blocks hc0)) ?_
          refine Ol.p (lens sl_L_api_Ins) ?_
          refine Ol.p lsi ?_
          refine Ol.p mvb ?_
          refine Ol.gn h8 ?_
          refine Ol.gn h8 ?_
          refine Ol.gn h8 ?_
          refine Ol.p (pkFb h8) ?_
          refine Ol.nil ?_
          refine Cd.cond rfl (fun h => by cases h) (fun h => ?_)
          refine Cd.exit (id := 2) ?_
          refine ⟨n, ⟨rfl, rfl, rfl, rfl, trivial⟩, rfl, fun h' => ?_, hq2⟩
          rw [hq1 h', hje, List.take_length, blocksSz_snoc hb]
          unfold bsz; omega
      · rintro σ' _ ⟨n', hs', rfl, hn'⟩
        refine Cd.has hs' ?_
        refine Cd.region ?_
        refine Ol.p mvi ?_
        refine Ol.p addi ?_
        refine Ol.p asi ?_
        refine Ol.nil ?_
        exact ⟨f.blocks.length - (k + 1), by omega, k + 1, n', rfl, by omega, ⟨rfl, rfl, rfl, rfl, trivial⟩, rfl, hn'⟩
    · have hgt : most < n := by
        have : ¬ (n : Int) ≤ most := by simpa using h
        omega
      refine Cd.exit (id := 0) ?_
      refine Cd.seq ?_
      refine Cd.region ?_
      refine Ol.p mvi ?_
      refine Ol.p asi ?_
      refine Ol.nil ?_
      exact Cd.ret ⟨.int .i64 _, ret1 rfl rfl, [], .nil, n, rfl, ⟨fun h' => by omega, hn2⟩, rfl⟩
  | false =>
    have hke : k = f.blocks.length := by
      have : ¬ (k : Int) < f.blocks.length := by simpa using h4
      omega
    subst hke
    refine Cd.region ?_
    refine Ol.p mvi ?_
    refine Ol.p mvs ?_
    refine Ol.p (lens sl_L_api_Block) ?_
    refine Ol.p lsi ?_
    refine Ol.p mvb ?_
    refine Ol.gn h4 ?_
    refine Ol.gn h4 ?_
    refine Ol.gn h4 ?_
    refine Ol.p (pkFb h4) ?_
    refine Ol.nil ?_
    refine Cd.cond rfl (fun h => by cases h) (fun h => ?_)
    refine Cd.exit (id := 0) ?_
    refine Cd.seq ?_
    refine Cd.region ?_
    refine Ol.p mvi ?_
    refine Ol.p asi ?_
    refine Ol.nil ?_
    rw [List.take_length] at hn1
    exact Cd.ret ⟨.int .i64 _, ret1 rfl rfl, [], .nil, n, rfl, ⟨hn1, hn2⟩, rfl⟩
theorem kit_FuncOf_ct {w : World} {f : RFun} {most : Nat} (hf : FunAt w w.heap.size f) (hfit : Fit f) (hm : most < 2 ^ 40) : Ct Tryd.prog 24 #[f.val, .int .i64 most] w (fun v R => ∃ n : Nat, v = .int .i64 n ∧ (n ≤ most → n = f.sz) ∧ n < 2 ^ 56 ∧ R = []) := by
  have hpl := hfit.plen
  refine Ct.mk Tryd.func24 rfl rfl ?_
  refine Cd.seq ?_
  refine Cd.region ?_
  refine Ol.x bxg ?_
  rintro _ _ ⟨g2, rfl, rfl⟩
  refine Ol.p asi ?_
  refine Ol.nil ?_
  refine Cd.seq ?_
  refine Cd.draw mixed 8 (fun j => match j with | 6 => some (fun v R => ∃ n : Nat, v = .int .i64 n ∧ Counted n most (blocksSz f.blocks) ∧ R = []) | _ => none) (fun _ => []) (by kernel_rfl) (by intro j V h; split at h <;> cases h; obtain ⟨n, hn⟩ := counted_ex hm (blocksSz f.blocks); exact ⟨_, _, n, rfl, hn, rfl⟩) (fun u hu => ?_)
  refine Wk.p (fdl fd_api_Func_0) ?_
  refine Wk.p (ld one_L_int (Rd.blk (i := 0) rfl rfl)) ?_
  refine Wk.p (lens sl_L_int) ?_
  refine Wk.p (fdl fd_api_Func_1) ?_
  refine Wk.p (ld one_L_api_Block (Rd.blk (i := 0) rfl rfl)) ?_
  refine Wk.p mvi ?_
  refine Wk.x hu (sp_call en_kit_BlocksOf (fun M w' hh => kit_BlocksOf_ct (hf.now hh) hfit hm)) ?_
  rintro _ _ hu6 ⟨n, rfl, ⟨hn1, hn2⟩, rfl⟩
  refine Wk.p addi ?_
  refine Wk.nil ?_
  rw [needs_cons hu6, needs_none]
  refine Ol.p asi ?_
  refine Ol.nil ?_
  exact Cd.ret ⟨.int .i64 _, ret1 rfl rfl, [], .nil, f.params.length + n, rfl, fun h' => by rw [hn1 (by omega)]; rfl, by omega, rfl⟩
end
end Go.Proofs.YtbcnejobnmljlaaDoor

/- Structs of numbers, compared. -/
namespace Go.Proofs.YtbcnejobnmljlaaDoor
set_option linter.unusedVariables false
open Go Go.RowKit
section
variable {P : Program} {w0 : World} {B : Nat} {σ : Env} {L : List Res} {d : Option Nat} {ty T : TypeId} {pos : String} {af : Array Edge} {gd : Option (Nat × Bool)} {x y z : Operand} {v : Value}
theorem run_eqFields_prim {xs ys : Array Value} {dd : Nat} (w : World) : ∀ fs : List Field, (∀ f ∈ fs, f.name ≠ "_" ∧ ∃ kd a b, primT P f.type kd ∧ xs[f.offset]? = some a ∧ ys[f.offset]? = some b ∧ Tell kd a b) → ∀ r : Bool, (r = true ↔ ∀ f ∈ fs, xs[f.offset]? = ys[f.offset]?) → (Op.eqFields (dd + 1) xs ys fs).run P w = .ok r w
  | [], _, r, hr => by
    have : r = true := hr.2 (by simp)
    simp [Op.eqFields, this]
  | f :: fs, h, r, hr => by
    obtain ⟨hn, kd, a, b, he, ha, hb, q, hs, hq⟩ := h f (by simp)
    have h1 := run_eq_prim (dd := dd) he.1 hs w
    have p1 : (part f.type xs f.offset).run P w = .ok a w := run_part_one he.one ha w
    have p2 : (part f.type ys f.offset).run P w = .ok b w := run_part_one he.one hb w
    simp only [Op.eqFields, hn, ne_eq, not_false_eq_true, if_true, Sem.run_bind, p1, p2, h1, Result.andThen_ok]
    cases q with
    | true =>
      have hab : a = b := hq.1 rfl
      have ih := run_eqFields_prim (dd := dd) w fs (fun j hj => h j (by simp [hj])) r (by
        rw [hr]
        simp [ha, hb, hab])
      simpa using ih
    | false =>
      have hab : a ≠ b := fun e => by have := hq.2 e; cases this
      have : r = false := by
        cases r with
        | false => rfl
        | true =>
          have := hr.1 rfl f (by simp)
          rw [ha, hb] at this
          exact absurd (Option.some.inj this) hab
      simp [this]
/-- A struct of n numbers. -/
def stI (P : Program) (T n : Nat) : Bool := match P.underlying T with
  | some (.struct fs) => fs.toList.all (fun f => (f.name != "_") && ((match P.underlying f.type with | some (.int _) => true | _ => false) && decide ((P.info? f.type).map (·.size) = some 1))) && decide (fs.toList.map (·.offset) = List.range n) && !P.stoodInHeld T && !P.eqGuardType P.depth T
  | _ => false
theorem run_equal_ints {n : Nat} {a b : List Int} (hT : stI P T n = true) (ha : a.length = n) (hb : b.length = n) (w : World) : (Op.equal T (.agg (ints a).toArray) (.agg (ints b).toArray)).run P w = .ok (decide (a = b)) w ∧ P.eqGuardType P.depth T = false := by
  unfold stI at hT
  split at hT
  · rename_i fs hu
    simp only [Bool.and_eq_true, List.all_eq_true, Bool.not_eq_true', decide_eq_true_eq] at hT
    obtain ⟨⟨⟨h1, h2⟩, h3⟩, h4⟩ := hT
    refine ⟨?_, h4⟩
    have hf : P.fieldsOf T = fs := by simp [Program.fieldsOf, hu]
    have := run_equalIn_struct (P := P) w 9999 T (ints a).toArray (ints b).toArray (by rw [hf]; exact hu) h3
    have e : (Op.equal T (.agg (ints a).toArray) (.agg (ints b).toArray)).run P w = (Op.equalIn (9999 + 1) T (.agg (ints a).toArray) (.agg (ints b).toArray)).run P w := rfl
    rw [e, this, hf]
    have hoff : ∀ f ∈ fs.toList, f.offset < n := fun f hf => by
      have : f.offset ∈ fs.toList.map (·.offset) := List.mem_map.2 ⟨f, hf, rfl⟩
      rw [h2] at this
      simpa using this
    have hall : ∀ i, i < n → ∃ f ∈ fs.toList, f.offset = i := fun i hi => by
      have : i ∈ fs.toList.map (·.offset) := by rw [h2]; simpa using hi
      simpa using this
    have hget : ∀ (l : List Int) (i : Nat) (hi : i < l.length), ((ints l).toArray)[i]? = some (.int .i64 l[i]) := fun l i hi => by simp [ints, hi]
    apply run_eqFields_prim (dd := 9998)
    · intro f hf
      obtain ⟨h5, h6, h7⟩ := h1 f hf
      refine ⟨by simpa using h5, ?_⟩
      have ho := hoff f hf
      split at h6
      · rename_i k hk
        exact ⟨.int k, _, _, ⟨hk, rfl, h7⟩, hget a _ (by omega), hget b _ (by omega), Tell.int⟩
      · cases h6
    · rw [decide_eq_true_iff]
      constructor
      · rintro rfl f _; rfl
      · intro h
        apply List.ext_getElem (by omega)
        intro i hi hj
        obtain ⟨f, hf, rfl⟩ := hall i (by omega)
        have := h f hf
        rw [hget a _ hi, hget b _ hj] at this
        simpa using this
  · cases hT
theorem eqs {u : TypeId} {n : Nat} {a b : List Int} (hT : stI P T n = true) (ha : a.length = n) (hb : b.length = n) (hx : ev σ x = .agg (ints a).toArray := by exact rfl) (hy : ev σ y = .agg (ints b).toArray := by exact rfl) :
    Sd P w0 B ⟨d, .binOp .eql T x y u, ty, pos, af, gd⟩ σ L (.bool (decide (a = b))) := sp_val fun w => by
  obtain ⟨h1, h2⟩ := run_equal_ints hT ha hb w
  simp [execOp, hx, hy, binOp, eqGuard_agg h2, h1]
theorem nes {u : TypeId} {n : Nat} {a b : List Int} (hT : stI P T n = true) (ha : a.length = n) (hb : b.length = n) (hx : ev σ x = .agg (ints a).toArray := by exact rfl) (hy : ev σ y = .agg (ints b).toArray := by exact rfl) :
    Sd P w0 B ⟨d, .binOp .neq T x y u, ty, pos, af, gd⟩ σ L (.bool (!decide (a = b))) := sp_val fun w => by
  obtain ⟨h1, h2⟩ := run_equal_ints hT ha hb w
  simp [execOp, hx, hy, binOp, eqGuard_agg h2, h1]
end
theorem st_api_Edge : stI Tryd.prog 47 3 = true := by kernel_rfl
end Go.Proofs.YtbcnejobnmljlaaDoor

/- The law 10: its small functions, walked. -/
namespace Go.Proofs.YtbcnejobnmljlaaDoor
set_option linter.unusedVariables false
open Go Go.RowKit
set_option maxRecDepth 100000

section
theorem law10_place_ct {w : World} {A : Option Addr} {c : Nat} {l : List Int} {n : Int} (hl : Reads w w.heap.size 1 A l.length (ints l)) (hb : l.length < 2 ^ 62) :
    Ct Tryd.prog 29 #[.slice A l.length c, .int .i64 n] w (Is (.int .i64 (indexI (fun x => decide (x = n)) l))) := by
  refine Ct.mk Tryd.func29 rfl rfl ?_
  refine Cd.seq ?_
  refine Cd.region ?_
  refine Ol.p asi ?_
  refine Ol.nil ?_
  refine Cd.seq ?_
  refine Cd.seq ?_
  refine Cd.region ?_
  refine Ol.p asi ?_
  refine Ol.nil ?_
  refine Cd.block ?_
  refine Cd.loop (fun m σ L => ∃ k, m = l.length - k ∧ k ≤ l.length ∧ Has σ [(0, .slice A l.length c), (1, .int .i64 n), (5, .int .i64 k)] ∧ L = [] ∧ ∀ i y, i < k → l[i]? = some y → decide (y = n) = false) (n := l.length) ⟨0, rfl, Nat.zero_le _, ⟨rfl, rfl, rfl, trivial⟩, rfl, fun i y h => by omega⟩ ?_
  rintro _ σ L ⟨k, rfl, hk, hs, rfl, hno⟩
  refine Cd.has hs ?_
  refine Cd.seq ?_
  refine Cd.seq ?_
  refine Cd.region ?_
  refine Ol.p mvi ?_
  refine Ol.p mvs ?_
  refine Ol.p (lens sl_L_int) ?_
  refine Ol.p lsi ?_
  refine Ol.nil ?_
  refine Cd.cond rfl (fun h => ?_) (fun h => ?_)
  · have hlt : k < l.length := by simpa using h
    refine Cd.skip ?_
    refine Cd.seq ?_
    refine Cd.block ?_
    refine Cd.seq ?_
    refine Cd.region ?_
    refine Ol.p mvs ?_
    refine Ol.p mvi ?_
    refine Ol.p (ixn1 sl_L_int (Som.slc hl (by omega))) ?_
    refine Ol.p (ld one_int (Rd.slc hl (ints_get hlt))) ?_
    refine Ol.p mvi ?_
    refine Ol.p eqi ?_
    refine Ol.nil ?_
    refine Cd.cond rfl (fun h2 => ?_) (fun h2 => ?_)
    · refine Cd.seq ?_
      refine Cd.region ?_
      refine Ol.p mvi ?_
      refine Ol.p asi ?_
      refine Ol.nil ?_
      refine Cd.ret ⟨_, ret1 rfl rfl, [], .nil, ?_, rfl⟩
      rw [indexI_at (List.getElem?_eq_getElem hlt) h2 hno]
      rfl
    · refine Cd.skip ?_
      refine Cd.region ?_
      refine Ol.p mvi ?_
      refine Ol.p addi ?_
      refine Ol.p asi ?_
      refine Ol.nil ?_
      refine ⟨l.length - (k + 1), by omega, k + 1, rfl, by omega, ⟨rfl, rfl, rfl, trivial⟩, rfl, ?_⟩
      intro i y hi hy
      rcases Nat.lt_or_ge i k with h3 | h3
      · exact hno i y h3 hy
      · have : i = k := by omega
        subst this
        rw [List.getElem?_eq_getElem hlt] at hy
        cases hy
        exact h2
  · have hge : k = l.length := by
      have : ¬ (k : Int) < l.length := by simpa using h
      omega
    subst hge
    refine Cd.exit (id := 0) ?_
    refine Cd.seq ?_
    refine Cd.region ?_
    refine Ol.p asi ?_
    refine Ol.nil ?_
    refine Cd.ret ⟨_, ret1 rfl rfl, [], .nil, ?_, rfl⟩
    rw [indexI_none hno]
    rfl
def natsI (l : List Nat) : List Int := l.map fun n : Nat => (n : Int)
theorem natsI_len (l : List Nat) : (natsI l).length = l.length := by simp [natsI]
theorem natsI_ints (l : List Nat) : ints (natsI l) = intsN l := by simp [natsI, ints, intsN, Function.comp_def]
theorem law10_place_nat {w : World} {A : Option Addr} {c : Nat} {l : List Nat} {n : Int} (hl : Reads w w.heap.size 1 A l.length (intsN l)) (hb : l.length < 2 ^ 62) :
    Ct Tryd.prog 29 #[.slice A l.length c, .int .i64 n] w (Is (.int .i64 (indexI (fun x => decide (x = n)) (natsI l)))) := by
  have h := law10_place_ct (c := c) (n := n) (l := natsI l) (w := w) (A := A) (by rw [natsI_len, natsI_ints]; exact hl) (by rw [natsI_len]; exact hb)
  rw [natsI_len] at h
  exact h
end

section
theorem ints_eq_of {a b : List Int} (hl : a.length = b.length) (h : ∀ i x y, i < a.length → a[i]? = some x → b[i]? = some y → x = y) : a = b := by
  apply List.ext_getElem hl
  intro i h1 h2
  exact h i _ _ h1 (List.getElem?_eq_getElem h1) (List.getElem?_eq_getElem h2)
theorem kit_SameInts_ct {w : World} {A B : Option Addr} {c d : Nat} {a b : List Int} (ha : Reads w w.heap.size 1 A a.length (ints a)) (hb : Reads w w.heap.size 1 B b.length (ints b)) (hal : a.length < 2 ^ 62) (hbl : b.length < 2 ^ 62) :
    Ct Tryd.prog 53 #[.slice A a.length c, .slice B b.length d] w (Is (.bool (decide (a = b)))) := by
  refine Ct.mk Tryd.func53 rfl rfl ?_
  refine Cd.seq ?_
  refine Cd.region ?_
  refine Ol.p asb ?_
  refine Ol.nil ?_
  refine Cd.seq ?_
  refine Cd.seq ?_
  refine Cd.region ?_
  refine Ol.p mvs ?_
  refine Ol.p (lens sl_L_int) ?_
  refine Ol.p mvs ?_
  refine Ol.p (lens sl_L_int) ?_
  refine Ol.p nei ?_
  refine Ol.nil ?_
  refine Cd.cond rfl (fun h => ?_) (fun h => ?_)
  · refine Cd.seq ?_
    refine Cd.region ?_
    refine Ol.p asb ?_
    refine Ol.nil ?_
    refine Cd.ret ⟨_, ret1 rfl rfl, [], .nil, ?_, rfl⟩
    have hne : a ≠ b := fun e => by subst e; simp at h
    rw [decide_eq_false hne]; rfl
  have hll : a.length = b.length := by
    have : (a.length : Int) = b.length := by simpa using h
    omega
  refine Cd.skip ?_
  refine Cd.seq ?_
  refine Cd.seq ?_
  refine Cd.region ?_
  refine Ol.p asi ?_
  refine Ol.nil ?_
  refine Cd.block ?_
  refine Cd.loop (fun m σ L => ∃ k, m = a.length - k ∧ k ≤ a.length ∧ Has σ [(0, .slice A a.length c), (1, .slice B b.length d), (5, .int .i64 k)] ∧ L = [] ∧ ∀ i x y, i < k → a[i]? = some x → b[i]? = some y → x = y) (n := a.length) ⟨0, rfl, Nat.zero_le _, ⟨rfl, rfl, rfl, trivial⟩, rfl, fun i x y h => by omega⟩ ?_
  rintro _ σ L ⟨k, rfl, hk, hs, rfl, hyes⟩
  refine Cd.has hs ?_
  refine Cd.seq ?_
  refine Cd.seq ?_
  refine Cd.region ?_
  refine Ol.p mvi ?_
  refine Ol.p mvs ?_
  refine Ol.p (lens sl_L_int) ?_
  refine Ol.p lsi ?_
  refine Ol.nil ?_
  refine Cd.cond rfl (fun h => ?_) (fun h => ?_)
  · have hlt : k < a.length := by simpa using h
    have hlt2 : k < b.length := by omega
    refine Cd.skip ?_
    refine Cd.seq ?_
    refine Cd.block ?_
    refine Cd.seq ?_
    refine Cd.draw mixed 9 (fun _ => none) (fun _ => []) (by kernel_rfl) (fun _ _ h => by cases h) (fun u hu => ?_)
    refine Wk.p mvs ?_
    refine Wk.p mvi ?_
    refine Wk.p (ixn1 sl_L_int (Som.slc ha (by omega))) ?_
    refine Wk.p (ld one_int (Rd.slc ha (ints_get hlt))) ?_
    refine Wk.p mvs ?_
    refine Wk.p mvi ?_
    refine Wk.p (ixn1 sl_L_int (Som.slc hb (by omega))) ?_
    refine Wk.p (ld one_int (Rd.slc hb (ints_get hlt2))) ?_
    refine Wk.p nei ?_
    refine Wk.nil ?_
    refine Ol.nil ?_
    refine Cd.cond rfl (fun h2 => ?_) (fun h2 => ?_)
    · refine Cd.seq ?_
      refine Cd.region ?_
      refine Ol.p asb ?_
      refine Ol.nil ?_
      refine Cd.ret ⟨_, ret1 rfl rfl, [], .nil, ?_, rfl⟩
      have hne : a ≠ b := fun e => by subst e; simp at h2
      rw [decide_eq_false hne]; rfl
    · refine Cd.skip ?_
      refine Cd.region ?_
      refine Ol.p mvi ?_
      refine Ol.p addi ?_
      refine Ol.p asi ?_
      refine Ol.nil ?_
      refine ⟨a.length - (k + 1), by omega, k + 1, rfl, by omega, ⟨rfl, rfl, rfl, trivial⟩, rfl, ?_⟩
      intro i x y hi hx hy
      rcases Nat.lt_or_ge i k with h3 | h3
      · exact hyes i x y h3 hx hy
      · have : i = k := by omega
        subst this
        rw [List.getElem?_eq_getElem hlt] at hx
        rw [List.getElem?_eq_getElem hlt2] at hy
        cases hx; cases hy
        simpa using h2
  · have hge : k = a.length := by
      have : ¬ (k : Int) < a.length := by simpa using h
      omega
    subst hge
    refine Cd.exit (id := 0) ?_
    refine Cd.seq ?_
    refine Cd.region ?_
    refine Ol.p asb ?_
    refine Ol.nil ?_
    refine Cd.ret ⟨_, ret1 rfl rfl, [], .nil, ?_, rfl⟩
    rw [decide_eq_true (ints_eq_of hll hyes)]; rfl
end

section
theorem law10_branch_ct {w : World} {x y : Int} : Ct Tryd.prog 50 #[.int .i64 x, .int .i64 y] w (Is (RBlk.val ⟨none, 0, [], ⟨2, 1, x, y⟩⟩)) := by
  refine Ct.mk Tryd.func50 rfl rfl ?_
  refine Cd.seq ?_
  refine Cd.region ?_
  refine Ol.x (alc zr_api_Block) ?_
  rintro _ _ ⟨g4, rfl, rfl⟩
  refine Ol.nil ?_
  refine Cd.seq ?_
  refine Cd.region ?_
  refine Ol.p mvi ?_
  refine Ol.p mvi ?_
  refine Ol.p (bda (cs := #[.int .i64 x, .int .i64 y]) ar_A2_int zr_A2_int (hf := by kernel_rfl)) ?_
  refine Ol.p (bds (cs := #[.int .i64 2, .int .i64 1, .int .i64 x, .int .i64 y]) bs_api_Term zr_api_Term (hf := by kernel_rfl)) ?_
  refine Ol.p (bds (cs := #[.slice none 0 0, .int .i64 2, .int .i64 1, .int .i64 x, .int .i64 y]) bs_api_Block zr_api_Block (hf := by kernel_rfl)) ?_
  refine Ol.s (stw (vs := #[.slice none 0 0, .int .i64 2, .int .i64 1, .int .i64 x, .int .i64 y]) sz_api_Block rfl (by intro u hu; simp at hu; rcases hu with rfl | rfl | rfl | rfl | rfl <;> rfl) (i := 0) rfl rfl) ?_
  refine Ol.nil ?_
  refine Cd.ret ⟨_, retc rfl ag_api_Block rfl (i := 0) rfl rfl, [], .nil, rfl, rfl⟩
theorem law10_jump_ct {w : World} {x : Int} : Ct Tryd.prog 51 #[.int .i64 x] w (Is (RBlk.val ⟨none, 0, [], ⟨1, 0, x, 0⟩⟩)) := by
  refine Ct.mk Tryd.func51 rfl rfl ?_
  refine Cd.seq ?_
  refine Cd.region ?_
  refine Ol.x (alc zr_api_Block) ?_
  rintro _ _ ⟨g2, rfl, rfl⟩
  refine Ol.nil ?_
  refine Cd.seq ?_
  refine Cd.region ?_
  refine Ol.p mvi ?_
  refine Ol.p (bda (cs := #[.int .i64 x, .int .i64 0]) ar_A2_int zr_A2_int (hf := by kernel_rfl)) ?_
  refine Ol.p (bds (cs := #[.int .i64 1, .int .i64 0, .int .i64 x, .int .i64 0]) bs_api_Term zr_api_Term (hf := by kernel_rfl)) ?_
  refine Ol.p (bds (cs := #[.slice none 0 0, .int .i64 1, .int .i64 0, .int .i64 x, .int .i64 0]) bs_api_Block zr_api_Block (hf := by kernel_rfl)) ?_
  refine Ol.s (stw (vs := #[.slice none 0 0, .int .i64 1, .int .i64 0, .int .i64 x, .int .i64 0]) sz_api_Block rfl (by intro u hu; simp at hu; rcases hu with rfl | rfl | rfl | rfl | rfl <;> rfl) (i := 0) rfl rfl) ?_
  refine Ol.nil ?_
  refine Cd.ret ⟨_, retc rfl ag_api_Block rfl (i := 0) rfl rfl, [], .nil, rfl, rfl⟩
theorem law10_trap_ct {w : World} : Ct Tryd.prog 52 #[] w (Is (RBlk.val ⟨none, 0, [], ⟨4, 0, 0, 0⟩⟩)) := by
  refine Ct.mk Tryd.func52 rfl rfl ?_
  refine Cd.seq ?_
  refine Cd.region ?_
  refine Ol.x (alc zr_api_Block) ?_
  rintro _ _ ⟨g0, rfl, rfl⟩
  refine Ol.nil ?_
  refine Cd.seq ?_
  refine Cd.region ?_
  refine Ol.p (bds (cs := #[.int .i64 4, .int .i64 0, .int .i64 0, .int .i64 0]) bs_api_Term zr_api_Term (hf := by kernel_rfl)) ?_
  refine Ol.p (bds (cs := #[.slice none 0 0, .int .i64 4, .int .i64 0, .int .i64 0, .int .i64 0]) bs_api_Block zr_api_Block (hf := by kernel_rfl)) ?_
  refine Ol.s (stw (vs := #[.slice none 0 0, .int .i64 4, .int .i64 0, .int .i64 0, .int .i64 0]) sz_api_Block rfl (by intro u hu; simp at hu; rcases hu with rfl | rfl | rfl | rfl | rfl <;> rfl) (i := 0) rfl rfl) ?_
  refine Ol.nil ?_
  refine Cd.ret ⟨_, retc rfl ag_api_Block rfl (i := 0) rfl rfl, [], .nil, rfl, rfl⟩
end

section
def Faw (g : Nat) : RFun := ⟨none, 0, [], some ⟨g, 0, none⟩, 3, [⟨none, 0, [], ⟨2, 1, 1, 2⟩⟩, ⟨none, 0, [], ⟨1, 0, 2, 0⟩⟩, ⟨none, 0, [], ⟨4, 0, 0, 0⟩⟩]⟩
def Taw : List Tm := [⟨2, 1, 1, 2⟩, ⟨1, 0, 2, 0⟩, ⟨4, 0, 0, 0⟩]
theorem Faw_fit (g : Nat) : Fit (Faw g) := by
  constructor <;> simp [Faw]
theorem Reads.none_ {w : World} {B s : Nat} : Reads w B s none 0 [] := ⟨by simp, fun h => absurd h (by omega)⟩
theorem Faw_at {w : World} {B g : Nat} (h : Reads w B 5 (some ⟨g, 0, none⟩) 3 ((Faw g).blocks.flatMap RBlk.cells)) : FunAt w B (Faw g) := by
  refine ⟨Reads.none_, h, ?_, ?_⟩
  · intro b hb
    simp [Faw] at hb
    rcases hb with rfl | rfl | rfl <;> exact Reads.none_
  · intro b hb i hi
    simp [Faw] at hb
    rcases hb with rfl | rfl | rfl <;> simp at hi
theorem law10_awake_ct {w : World} : Ct Tryd.prog 23 #[] w (Is (.bool true)) := by
  have hC0 : someE Taw (critE Taw) = [⟨0, 1, 2⟩] := by kernel_rfl
  have hO0 : orderF Taw = [0, 1, 2] := by kernel_rfl
  have hE0 : someE Taw (fun _ => true) = [⟨0, 0, 1⟩, ⟨0, 1, 2⟩, ⟨1, 0, 2⟩] := by kernel_rfl
  have hC : ∀ g, someE (Faw g).terms (critE (Faw g).terms) = [⟨0, 1, 2⟩] := fun g => hC0
  have hO : ∀ g, orderF (Faw g).terms = [0, 1, 2] := fun g => hO0
  have hE : ∀ g, someE (Faw g).terms (fun _ => true) = [⟨0, 0, 1⟩, ⟨0, 1, 2⟩, ⟨1, 0, 2⟩] := fun g => hE0
  refine Ct.mk Tryd.func23 rfl rfl ?_
  refine Cd.seq ?_
  refine Cd.region ?_
  refine Ol.p asb ?_
  refine Ol.nil ?_
  refine Cd.seq ?_
  refine Cd.region ?_
  refine Ol.s (cl en_law10_branch (fun M w' hh => law10_branch_ct)) ?_
  refine Ol.s (cl en_law10_jump (fun M w' hh => law10_jump_ct)) ?_
  refine Ol.s (cl en_law10_trap (fun M w' hh => law10_trap_ct)) ?_
  refine Ol.x (bsn [RBlk.val ⟨none, 0, [], ⟨2, 1, 1, 2⟩⟩, RBlk.val ⟨none, 0, [], ⟨1, 0, 2, 0⟩⟩, RBlk.val ⟨none, 0, [], ⟨4, 0, 0, 0⟩⟩] sl_L_api_Block zr_api_Block (by intro v hv; simp at hv; rcases hv with rfl | rfl | rfl <;> rfl) rfl (by decide) (by decide)) ?_
  rintro _ _ ⟨g6, rfl, rfl⟩
  refine Ol.p (bds (cs := #[.slice none 0 0, .slice (some ⟨g6, 0, none⟩) 3 3]) bs_api_Func zr_api_Func (hf := by kernel_rfl)) ?_
  refine Ol.x (alc zr_api_Func) ?_
  rintro _ _ ⟨g1, rfl, rfl⟩
  refine Ol.s (stw (vs := #[.slice none 0 0, .slice (some ⟨g6, 0, none⟩) 3 3]) sz_api_Func rfl (by intro u hu; simp at hu; rcases hu with rfl | rfl <;> rfl) (i := 0) rfl rfl) ?_
  refine Ol.nil ?_
  refine Cd.seq ?_
  refine Cd.region ?_
  refine Ol.p (ldw ag_api_Func (i := 0) rfl rfl) ?_
  refine Ol.x (sp_call en_flow_Critical (fun M' w' hh => (by have h := flow_Critical_ct (f := Faw g6) (w := w') (Faw_at (Reads.row hh (i := 1) rfl)) (Faw_fit g6); rw [hC g6] at h; exact h))) ?_
  rintro _ _ ⟨_, rfl, A9, c9, rfl, rfl⟩
  refine Ol.p ass ?_
  refine Ol.nil ?_
  refine Cd.seq ?_
  refine Cd.region ?_
  refine Ol.p (ldw ag_api_Func (i := 1) rfl rfl) ?_
  refine Ol.x (sp_call en_flow_Order (fun M' w' hh => (by have h := flow_Order_ct (f := Faw g6) (w := w') (Faw_at (Reads.row hh (i := 2) rfl)) (Faw_fit g6); rw [hO g6] at h; exact h))) ?_
  rintro _ _ ⟨_, rfl, ⟨h0, _⟩ | ⟨gO, kO, cO, csO, rfl, rfl, hl, hx⟩⟩; · cases h0
  refine Ol.x (bsv [.int .i64 0, .int .i64 1, .int .i64 2] sl_L_int zr_int (by simp [Value.cells])) ?_
  rintro _ _ ⟨g12, rfl, rfl⟩
  refine Ol.s (cl en_kit_SameInts (fun M w' hh => kit_SameInts_ct (a := [0, 1, 2]) (b := [0, 1, 2]) (Reads.blk hh (i := 1) rfl hl hx) (Reads.row hh (i := 0) rfl) (by decide) (by decide))) ?_
  refine Ol.p mvb ?_
  refine Ol.gp rfl mvs ?_
  refine Ol.gp rfl (lens sl_L_api_Edge) ?_
  refine Ol.gp rfl eqi ?_
  refine Ol.p (pkTb rfl) ?_
  refine Ol.p mvb ?_
  refine Ol.gp rfl mvs ?_
  refine Ol.gp rfl (ixn (ix := 0) sl_L_api_Edge (Som.row (i := 2) rfl (by decide)) (h := by decide)) ?_
  refine Ol.gp rfl (ldr (es := Ed.cells ⟨0, 1, 2⟩) (i := 2) (k := 0) ag_api_Edge rfl rfl (fun j u h => by simpa [edV] using h)) ?_
  refine Ol.gp rfl (bds (cs := (Ed.cells ⟨0, 1, 2⟩).toArray) bs_api_Edge zr_api_Edge (hf := by kernel_rfl)) ?_
  refine Ol.gp rfl (eqs (n := 3) (a := [0, 1, 2]) (b := [0, 1, 2]) st_api_Edge rfl rfl) ?_
  refine Ol.p (pkTb rfl) ?_
  refine Ol.p mvb ?_
  refine Ol.gp rfl (ldw ag_api_Func (i := 3) rfl rfl) ?_
  refine Ol.gx rfl (sp_call en_flow_Edges (fun M' w' hh => (by have h := flow_Edges_ct (f := Faw g6) (w := w') (Faw_at (Reads.row hh (i := 4) rfl)) (Faw_fit g6); rw [hE g6] at h; exact h))) ?_
  rintro _ _ ⟨_, rfl, A28, c28, rfl, rfl⟩
  refine Ol.gp rfl (lens sl_L_api_Edge) ?_
  refine Ol.gp rfl eqi ?_
  refine Ol.p (pkTb rfl) ?_
  refine Ol.p asb ?_
  refine Ol.nil ?_
  refine Cd.ret ⟨.bool _, ret1 rfl rfl, [], .nil, rfl, rfl⟩
end
end Go.Proofs.YtbcnejobnmljlaaDoor

/- The package dom: the tree, walked. -/
namespace Go.Proofs.YtbcnejobnmljlaaDoor
set_option linter.unusedVariables false
open Go Go.RowKit
set_option maxRecDepth 100000

theorem uint_ltn {a : Int} {n : Nat} (h : -9223372036854775808 ≤ a ∧ a ≤ 9223372036854775807) (hn : n < 2 ^ 50) : decide (IntKind.u64.wrap a < IntKind.u64.wrap (n : Int)) = (decide (0 ≤ a) && decide (a < (n : Int))) := by
  rw [wrapU, wrapU]
  by_cases h1 : 0 ≤ a <;> by_cases h2 : a < (n : Int) <;> simp [h1, h2] <;> omega
theorem ints_get' {l : List Int} {k : Nat} {n : Int} (h : l[k]? = some n) : (ints l)[k]? = some (.int .i64 n) := by simp [ints, h]
section
def treeV (AU AP : Option Addr) (nU nP cU cP : Nat) : Value := .agg #[.slice AU nU cU, .slice AP nP cP]
set_option maxHeartbeats 1000000 in
theorem dom_meet_ct {w : World} {AU AP : Option Addr} {cU cP : Nat} {ul pl : List Int} {G : Gra} {a b : Nat} (hU : Reads w w.heap.size 1 AU ul.length (ints ul)) (hP : Reads w w.heap.size 1 AP pl.length (ints pl)) (ht : Tr G (asU ul))
    (hpl : ∀ x, G.R x → pl[x]? = some (G.pl x : Int)) (hlen : ∀ x, G.R x → x < ul.length ∧ x < pl.length) (ha : Pr (asU ul) a) (hb : Pr (asU ul) b) :
    Ct Tryd.prog 81 #[treeV AU AP ul.length pl.length cU cP, .int .i64 (a : Int), .int .i64 (b : Int)] w (fun v R => ∃ m : Nat, v = .int .i64 (m : Int) ∧ Meet (asU ul) a b m ∧ R = []) := by
  refine Ct.mk Tryd.func81 rfl rfl ?_
  refine Cd.seq ?_
  refine Cd.region ?_
  refine Ol.x bxg ?_
  rintro _ _ ⟨g3, rfl, rfl⟩
  refine Ol.p asi ?_
  refine Ol.nil ?_
  refine Cd.seq ?_
  refine Cd.block ?_   -- 0
  obtain ⟨L0, hL0⟩ : ∃ L0, L0 = [blk g3 (.cells #[.slice AU ul.length cU, .slice AP pl.length cP] 96)] := ⟨_, rfl⟩
  refine Cd.loop (fun m σ L => ∃ a' b' : Nat, m = G.pl a' + G.pl b' ∧ Pr (asU ul) a' ∧ Pr (asU ul) b' ∧ (∀ m, Meet (asU ul) a' b' m → Meet (asU ul) a b m) ∧ Has σ [(1, .int .i64 (a' : Int)), (2, .int .i64 (b' : Int)), (3, .pointer (some ⟨g3, 0, none⟩))] ∧ L0 = L) (n := G.pl a + G.pl b) ⟨a, b, rfl, ha, hb, fun _ h => h, ⟨rfl, rfl, rfl, trivial⟩, hL0⟩ ?_
  rintro _ σ L ⟨a', b', rfl, ha', hb', hm, hs, rfl⟩
  have hRa := ha'.reached ht
  have hRb := hb'.reached ht
  refine Cd.has hs ?_
  refine Cd.seq ?_
  refine Cd.seq ?_
  refine Cd.region ?_
  refine Ol.p mvi ?_
  refine Ol.p mvi ?_
  refine Ol.p nei ?_
  refine Ol.nil ?_
  refine Cd.cond rfl (fun h => ?_) (fun h => ?_)   -- $9
  · have hne : a' ≠ b' := by
      simp only [Bool.not_eq_true', decide_eq_false_iff_not] at h
      intro e
      exact h (by rw [e])
    have hpa := ints_get' (hpl a' hRa)
    have hpb := ints_get' (hpl b' hRb)
    have hua := ints_get' (asU_get (hlen a' hRa).1)
    have hub := ints_get' (asU_get (hlen b' hRb).1)
    have hla := hlen a' hRa
    have hlb := hlen b' hRb
    subst hL0
    refine Cd.skip ?_
    refine Cd.block ?_   -- 1
    refine Cd.seq ?_
    refine Cd.draw mixed 11 (fun _ => none) (fun _ => []) (by kernel_rfl) (fun _ _ h => by cases h) (fun u hu => ?_)
    refine Wk.p (fdl fd_dom_tree_1) ?_
    refine Wk.p (ld one_L_int (Rd.blk (i := 0) rfl rfl)) ?_
    refine Wk.p mvi ?_
    refine Wk.p (ixn1 (ix := a') sl_L_int (Som.slc hP (by omega))) ?_
    refine Wk.p (ld one_int (Rd.slc hP hpa)) ?_
    refine Wk.p (fdl fd_dom_tree_1) ?_
    refine Wk.p (ld one_L_int (Rd.blk (i := 0) rfl rfl)) ?_
    refine Wk.p mvi ?_
    refine Wk.p (ixn1 (ix := b') sl_L_int (Som.slc hP (by omega))) ?_
    refine Wk.p (ld one_int (Rd.slc hP hpb)) ?_
    refine Wk.p gti ?_
    refine Wk.nil ?_
    refine Ol.nil ?_
    refine Cd.cond rfl (fun h2 => ?_) (fun h2 => ?_)   -- $20
    · have hlt : G.pl b' < G.pl a' := by simp only [decide_eq_true_eq] at h2; omega
      have h0 : 0 ≤ asU ul a' := by
        rcases ha' with e | e
        · rw [e, G.pl0] at hlt; omega
        · exact e
      have hup := ht.up a' h0
      have hcast : ((asU ul a').toNat : Int) = asU ul a' := by omega
      refine Cd.region ?_
      refine Ol.p (fdl fd_dom_tree_0) ?_
      refine Ol.p (ld one_L_int (Rd.blk (i := 0) rfl rfl)) ?_
      refine Ol.p mvi ?_
      refine Ol.p (ixn1 (ix := a') sl_L_int (Som.slc hU (by omega))) ?_
      refine Ol.p (ld one_int (Rd.slc hU hua)) ?_
      refine Ol.p asi ?_
      refine Ol.nil ?_
      rw [← hcast]
      exact ⟨_, by have := hup.2.2.1; show G.pl (asU ul a').toNat + G.pl b' < _; omega, (asU ul a').toNat, b', rfl, hup.2.2.2, hb', fun m h => hm m (Meet.left ht h0 hlt h), ⟨rfl, rfl, rfl, trivial⟩, rfl⟩
    have hlt : G.pl a' < G.pl b' := by
      simp only [decide_eq_false_iff_not] at h2
      have : G.pl a' ≠ G.pl b' := fun e => hne (G.inj a' b' hRa hRb e)
      omega
    have h0 : 0 ≤ asU ul b' := by
      rcases hb' with e | e
      · rw [e, G.pl0] at hlt; omega
      · exact e
    have hup := ht.up b' h0
    have hcast : ((asU ul b').toNat : Int) = asU ul b' := by omega
    refine Cd.region ?_
    refine Ol.p (fdl fd_dom_tree_0) ?_
    refine Ol.p (ld one_L_int (Rd.blk (i := 0) rfl rfl)) ?_
    refine Ol.p mvi ?_
    refine Ol.p (ixn1 (ix := b') sl_L_int (Som.slc hU (by omega))) ?_
    refine Ol.p (ld one_int (Rd.slc hU hub)) ?_
    refine Ol.p asi ?_
    refine Ol.nil ?_
    rw [← hcast]
    exact ⟨_, by have := hup.2.2.1; show G.pl a' + G.pl (asU ul b').toNat < _; omega, a', (asU ul b').toNat, rfl, ha', hup.2.2.2, fun m h => hm m (Meet.right ht h0 hlt h), ⟨rfl, rfl, rfl, trivial⟩, rfl⟩
  have he : a' = b' := by
    simp only [Bool.not_eq_false', decide_eq_true_eq] at h
    omega
  subst he
  refine Cd.exit (id := 0) ?_
  refine Cd.seq ?_
  refine Cd.region ?_
  refine Ol.p mvi ?_
  refine Ol.p asi ?_
  refine Ol.nil ?_
  exact Cd.ret ⟨.int .i64 _, ret1 rfl rfl, [], .nil, a', rfl, hm _ Meet.same, rfl⟩
theorem dom_reached_ct {w : World} {AU AP : Option Addr} {cU cP nU : Nat} {pl : List Int} {b : Int} (hP : Reads w w.heap.size 1 AP pl.length (ints pl)) (hl : pl.length < 2 ^ 50) (hb : -9223372036854775808 ≤ b ∧ b ≤ 9223372036854775807) :
    Ct Tryd.prog 80 #[treeV AU AP nU pl.length cU cP, .int .i64 b] w (Is (.bool (inP pl b))) := by
  refine Ct.mk Tryd.func80 rfl rfl ?_
  refine Cd.seq ?_
  refine Cd.region ?_
  refine Ol.x bxg ?_
  rintro _ _ ⟨g2, rfl, rfl⟩
  refine Ol.p asb ?_
  refine Ol.nil ?_
  have hu := uint_ltn hb hl
  refine Cd.seq ?_
  cases h7 : (decide (0 ≤ b) && decide (b < (pl.length : Int))) with
  | true =>
    simp only [Bool.and_eq_true, decide_eq_true_eq] at h7
    have hlt : b.toNat < pl.length := by omega
    have hcast : ((b.toNat : Nat) : Int) = b := by omega
    have hv : pl[b.toNat]? = some (pl.getD b.toNat (-1)) := by rw [List.getD_eq_getElem?_getD, List.getElem?_eq_getElem hlt]; rfl
    have hT : decide (IntKind.u64.wrap b < IntKind.u64.wrap (pl.length : Int)) = true := by rw [hu]; simp [h7]
    refine Cd.region ?_
    refine Ol.p mvi ?_
    refine Ol.p (cvw in_int in_uint) ?_
    refine Ol.p (fdl fd_dom_tree_1) ?_
    refine Ol.p (ld one_L_int (Rd.blk (i := 0) rfl rfl)) ?_
    refine Ol.p (lens sl_L_int) ?_
    refine Ol.p (cvw in_int in_uint) ?_
    refine Ol.p lsi ?_
    refine Ol.p mvb ?_
    refine Ol.gp hT (fdl fd_dom_tree_1) ?_
    refine Ol.gp hT (ld one_L_int (Rd.blk (i := 0) rfl rfl)) ?_
    refine Ol.gp hT mvi ?_
    refine Ol.gp hT (ixn1 (ix := b.toNat) sl_L_int (Som.slc hP (by omega)) (hy := congrArg (Value.int .i64) hcast.symm)) ?_
    refine Ol.gp hT (ld one_int (Rd.slc hP (ints_get' hv))) ?_
    refine Ol.gp hT gei ?_
    refine Ol.p (pkTb hT) ?_
    refine Ol.p asb ?_
    refine Ol.nil ?_
    refine Cd.ret ⟨.bool _, ret1 rfl rfl, [], .nil, ?_, rfl⟩
    unfold inP
    simp [h7]
  | false =>
    have hF : decide (IntKind.u64.wrap b < IntKind.u64.wrap (pl.length : Int)) = false := by rw [hu]; exact h7
    refine Cd.region ?_
    refine Ol.p mvi ?_
    refine Ol.p (cvw in_int in_uint) ?_
    refine Ol.p (fdl fd_dom_tree_1) ?_
    refine Ol.p (ld one_L_int (Rd.blk (i := 0) rfl rfl)) ?_
    refine Ol.p (lens sl_L_int) ?_
    refine Ol.p (cvw in_int in_uint) ?_
    refine Ol.p lsi ?_
    refine Ol.p mvb ?_
    refine Ol.gn hF ?_
    refine Ol.gn hF ?_
    refine Ol.gn hF ?_
    refine Ol.gn hF ?_
    refine Ol.gn hF ?_
    refine Ol.gn hF ?_
    refine Ol.p (pkFb hF) ?_
    refine Ol.p asb ?_
    refine Ol.nil ?_
    refine Cd.ret ⟨.bool _, ret1 rfl rfl, [], .nil, ?_, rfl⟩
    unfold inP
    rw [h7]; rfl
end
theorem ints_rep (n : Nat) (z : Int) : (ints (List.replicate n z)).toArray = Array.replicate n (.int .i64 z) := by
  apply Array.ext'
  simp [ints]
theorem ints_size (l : List Int) : ((ints l).toArray).size = l.length := by simp [ints]
theorem ints_set (l : List Int) (k : Nat) (n : Int) : ((ints l).toArray).setIfInBounds k (.int .i64 n) = (ints (l.set k n)).toArray := by
  apply Array.ext'
  simp [ints, List.map_set]
section
/-- The tree of a function: of one that is closed each block's immediate dominator, and its place. -/
def TreeV (ts : List Tm) : Value → List Res → Prop := fun v R => (closed ts = false ∧ v = treeV none none 0 0 0 0 ∧ R = []) ∨
  (closed ts = true ∧ DomU ts (domL ts) ∧ ∃ gU gP, v = treeV (some ⟨gU, 0, none⟩) (some ⟨gP, 0, none⟩) ts.length ts.length ts.length ts.length ∧ R = [blk gP (.cells (ints (plL ts)).toArray 3), blk gU (.cells (ints (domL ts)).toArray 3)])
def preI (ts : List Tm) (x : Nat) : List Int := (preF ts x).map fun n : Nat => (n : Int)
/-- What is held while the tree is made. -/
def madeR (f : RFun) (n gI gP gU gO g2 g1 : Nat) (csO U : Array Value) (H : Heads) (xs : Nat → List Int) : List Res :=
  blk gI (.cells (rngV n (headV H xs)) 22) :: blk gP (.cells (ints (plL f.terms)).toArray 3) :: blk gU (.cells U 3) :: blk gO (.cells csO 3) :: blk g2 (.cells #[.slice (some ⟨gU, 0, none⟩) n n, .slice (some ⟨gP, 0, none⟩) n n] 96) :: blk g1 (.cells f.cells.toArray 38) :: rowsP n 3 H xs
theorem headV_set {n b : Nat} {H : Heads} {xs xs' : Nat → List Int} {A : Option Addr} {c : Nat} (hx : ∀ x, x ≠ b → xs x = xs' x) : (rngV n (headV H xs)).setIfInBounds b (.slice A (xs' b).length c) = rngV n (headV (fun x => if x = b then (A, c) else H x) xs') := by
  rw [rngV_set]
  refine rngV_congr fun x _ => ?_
  unfold headV
  by_cases e : x = b
  · subst e; simp
  · simp [e, hx x e]
theorem rowsP_set {n e b : Nat} {H : Heads} {xs xs' : Nat → List Int} {A : Option Addr} {c : Nat} (hb : b < n) (hx : ∀ x, x ≠ b → xs x = xs' x) : (rowsP n e (fun x => if x = b then (A, c) else H x) xs').Perm (row (.slice A (xs' b).length c) e 1 (xs' b).length (ints (xs' b)) :: restP n e b H xs) := by
  have h1 := rowsP_perm (n := n) (e := e) (b := b) (H := fun x => if x = b then (A, c) else H x) (xs := xs') hb
  have h2 : restP n e b (fun x => if x = b then (A, c) else H x) xs' = restP n e b H xs := restP_congr fun x hne => ⟨by simp [hne], (hx x hne).symm⟩
  rw [h2] at h1
  simpa using h1
def FixU (ts : List Tm) (ul : List Int) : Prop := ∀ b ∈ orderF ts, b ≠ 0 → Eva (asU ul) (preF ts b) (asU ul b)
set_option maxHeartbeats 8000000 in
theorem dom_made_ct {w : World} {f : RFun} (hf : FunAt w w.heap.size f) (hfit : Fit f) : Ct Tryd.prog 65 #[f.val] w (TreeV f.terms) := by
  have hbl := hfit.blen
  have htl : f.terms.length = f.blocks.length := by simp [RFun.terms]
  refine Ct.mk Tryd.func65 rfl rfl ?_
  refine Cd.seq ?_
  refine Cd.region ?_
  refine Ol.x bxg ?_
  rintro _ _ ⟨g1, rfl, rfl⟩
  refine Ol.x (alc zr_dom_tree) ?_
  rintro _ _ ⟨g2, rfl, rfl⟩
  refine Ol.nil ?_
  refine Cd.seq ?_
  refine Cd.seq ?_
  refine Cd.region ?_
  refine Ol.p (ldw ag_api_Func (i := 1) rfl rfl) ?_
  refine Ol.s (cl en_flow_Closed (fun M w' hh => flow_Closed_ct (hf.now hh) hfit)) ?_
  refine Ol.p noti ?_
  refine Ol.nil ?_
  refine Cd.cond rfl (fun h => ?_) (fun h => ?_)   -- $17
  · have hcl : closed f.terms = false := by simpa using h
    refine Cd.seq ?_
    refine Cd.region ?_
    refine Ol.p (ldw ag_dom_tree (i := 0) rfl rfl) ?_
    refine Ol.s (stw (vs := #[.slice none 0 0, .slice none 0 0]) sz_dom_tree rfl (by intro u hu; simp at hu; subst hu; rfl) (i := 0) rfl rfl) ?_
    refine Ol.nil ?_
    exact Cd.ret ⟨_, retc rfl ag_dom_tree rfl (i := 0) rfl rfl, [], .nil, .inl ⟨hcl, rfl, rfl⟩⟩
  have hcl : closed f.terms = true := by simpa using h
  obtain ⟨hn0, hn200⟩ := closed_le hcl
  obtain ⟨n, hn⟩ : ∃ n, n = f.terms.length := ⟨_, rfl⟩
  have hnb : f.blocks.length = n := by rw [hn, htl]
  have hon : (orderF f.terms).length ≤ n := by rw [hn]; exact order_len_le hcl
  have holt : ∀ x ∈ orderF f.terms, x < n := fun x hx => by rw [hn]; exact order_lt hcl hx
  obtain ⟨tl, hord⟩ := order_head hcl
  refine Cd.skip ?_
  refine Cd.seq ?_
  refine Cd.region ?_
  refine Ol.p (ldw ag_api_Func (i := 1) rfl rfl) ?_
  refine Ol.x (sp_call en_flow_Order (fun M w' hh => flow_Order_ct2 (hf.now hh) hfit)) ?_
  rintro _ _ ⟨_, rfl, ⟨h0, _⟩ | ⟨gO, kO, cO, csO, rfl, rfl, hOl, hOc, hOx⟩⟩; (rw [hord] at h0; simp at h0)
  refine Ol.p ass ?_
  refine Ol.nil ?_
  obtain ⟨ol, hol⟩ : ∃ ol, ol = (orderF f.terms).length := ⟨_, rfl⟩
  have hol1 : 1 ≤ ol := by rw [hol, hord]; simp
  rw [← hol] at hOc hon ⊢
  have hOget : ∀ (k b : Nat), (orderF f.terms)[k]? = some b → csO[kO + k]? = some (.int .i64 (b : Int)) := fun k b hk => hOx k _ (intsN_get hk)
  refine Cd.seq ?_
  refine Cd.draw mixed 11 (fun opNo => match opNo with | 0 => some (NewSv 3 1 1 1 [.int .i64 (-1)]) | 4 => some (RepV 3 n (-1)) | 5 => some (NewSv 3 1 1 1 [.int .i64 (-1)]) | 9 => some (RepV 3 n (-1)) | _ => none) (fun opNo => match opNo with | 4 => [0] | 9 => [5] | _ => []) (by kernel_rfl) (by intro q V h; split at h <;> cases h; exact ⟨_, _, 0, rfl, rfl⟩; exact ⟨_, _, 0, rfl, rfl⟩; exact ⟨_, _, 0, rfl, rfl⟩; exact ⟨_, _, 0, rfl, rfl⟩) (fun u hu => ?_)
  refine Wk.x (V := NewSv 3 1 1 1 [.int .i64 (-1)]) hu (NewS.adds (bsv [.int .i64 (-1)] sl_L_int zr_int (by simp [Value.cells]))) ?_
  rintro _ _ hu0 ⟨g21, rfl, rfl⟩
  refine Wk.p (fdl fd_api_Func_1) ?_
  refine Wk.p (ld one_L_api_Block (Rd.blk (i := 2) rfl rfl)) ?_
  refine Wk.p (lens sl_L_api_Block) ?_
  refine Wk.xn (V := RepV 3 n (-1)) hu (l := [0]) rfl (by simp) (by rw [needs_cons hu0, needs_none]; exact (by rw [← hnb]; exact sp_call en_slices_Repeat_L_int_int (fun M w' hh => slices_Repeat_one (Reads.row hh (i := 0) rfl) (by omega) (by omega)))) ?_
  rintro _ _ hu4 ⟨gU, rfl, rfl⟩
  refine Wk.x (V := NewSv 3 1 1 1 [.int .i64 (-1)]) hu (NewS.adds (bsv [.int .i64 (-1)] sl_L_int zr_int (by simp [Value.cells]))) ?_
  rintro _ _ hu5 ⟨g26, rfl, rfl⟩
  refine Wk.p (fdl fd_api_Func_1) ?_
  refine Wk.p (ld one_L_api_Block (Rd.blk (i := 2) rfl rfl)) ?_
  refine Wk.p (lens sl_L_api_Block) ?_
  refine Wk.xn (V := RepV 3 n (-1)) hu (l := [5]) rfl (by simp) (by rw [needs_cons hu5, needs_none]; exact (by rw [← hnb]; exact sp_call en_slices_Repeat_L_int_int (fun M w' hh => slices_Repeat_one (Reads.row hh (i := 0) rfl) (by omega) (by omega)))) ?_
  rintro _ _ hu9 ⟨gP, rfl, rfl⟩
  refine Wk.p (fdl fd_dom_tree_0) ?_
  refine Wk.nil ?_
  rw [needs_cons hu9, needs_cons hu5, needs_cons hu4, needs_cons hu0, needs_none]
  refine Ol.s (sto (i := 5) (k := 0) (.inr sz_L_int) rfl rfl rfl (by exact (by decide : 0 < 2)) rfl) ?_
  refine Ol.p (fdl fd_dom_tree_1) ?_
  refine Ol.s (sto (i := 5) (k := 1) (.inr sz_L_int) rfl rfl rfl (by exact (by decide : 1 < 2)) rfl) ?_
  refine Ol.keep (.sub (.cons_cons _ (.cons _ (.cons_cons _ (.cons _ (List.Sublist.refl _)))))) ?_
  refine Ol.nil ?_
  have eP : Array.replicate n (Value.int .i64 (-1)) = rngV n fun x => .int .i64 (plTo f.terms 0 x) := by
    rw [rngV_rep]
    exact rngV_congr fun i _ => by rw [plTo_zero]
  rw (occs := .pos [1]) [eP]
  obtain ⟨LR, hLR⟩ : ∃ LR, LR = [blk gU (.cells (Array.replicate n (.int .i64 (-1))) 3), blk gO (.cells csO 3), blk g2 (.cells #[.slice (some ⟨gU, 0, none⟩) n n, .slice (some ⟨gP, 0, none⟩) n n] 96), blk g1 (.cells f.cells.toArray 38)] := ⟨_, rfl⟩
  refine Cd.seq ?_
  refine Cd.seq ?_
  refine Cd.region ?_
  refine Ol.p mvs ?_
  refine Ol.p (lens sl_L_int) ?_
  refine Ol.p mvi ?_
  refine Ol.nil ?_
  refine Cd.block ?_   -- 0
  refine Cd.loop (fun m σ L => ∃ k, m = ol - k ∧ k ≤ ol ∧ Has σ [(1, .pointer (some ⟨g1, 0, none⟩)), (2, .pointer (some ⟨g2, 0, none⟩)), (3, .slice (some ⟨gO, kO, none⟩) ol cO), (33, .slice (some ⟨gO, kO, none⟩) ol cO), (34, .int .i64 ol), (35, .int .i64 k)] ∧ blk gP (.cells (rngV n fun x => .int .i64 (plTo f.terms k x)) 3) :: LR = L) (n := ol) ⟨0, rfl, Nat.zero_le _, ⟨rfl, rfl, rfl, rfl, rfl, rfl, trivial⟩, by rw [hLR]; rfl⟩ ?_
  rintro _ σ L ⟨k, rfl, hk, hs, rfl⟩
  refine Cd.has hs ?_
  refine Cd.seq ?_
  refine Cd.region ?_
  refine Ol.p lsi ?_
  refine Ol.nil ?_
  refine Cd.seq ?_
  refine Cd.cond rfl (fun h => ?_) (fun h => ?_)   -- $36
  · have hlt : k < ol := by simpa using h
    obtain ⟨b, hb⟩ : ∃ b, (orderF f.terms)[k]? = some b := ⟨_, List.getElem?_eq_getElem (by omega)⟩
    have hbn := holt b (List.mem_of_getElem? hb)
    refine Cd.skip ?_
    refine Cd.seq ?_
    refine Cd.block ?_   -- 1
    subst hLR
    refine Cd.seq ?_
    refine Cd.region ?_
    refine Ol.p mvi ?_
    refine Ol.p (ixo (ix := k) sl_L_int) ?_
    refine Ol.p (ld (v := .int .i64 (b : Int)) one_int (Rd.blk (k := kO + k * 1) (i := 2) rfl (by rw [Nat.mul_one]; exact hOget k b hb))) ?_
    refine Ol.p asi ?_
    refine Ol.p asi ?_
    refine Ol.nil ?_
    refine Cd.region ?_
    refine Ol.p (fdl fd_dom_tree_1) ?_
    refine Ol.p (ld one_L_int (Rd.blk (i := 3) rfl rfl)) ?_
    refine Ol.p mvi ?_
    refine Ol.p mvi ?_
    refine Ol.p (ixo1 (ix := b) sl_L_int) ?_
    refine Ol.s (sto (i := 0) (k := b) (.inr sz_int) rfl rfl rfl (by rw [rngV_size]; exact hbn) rfl) ?_
    refine Ol.nil ?_
    refine Cd.region ?_
    refine Ol.p addi ?_
    refine Ol.p mvi ?_
    refine Ol.nil ?_
    refine ⟨ol - (k + 1), by omega, k + 1, rfl, by omega, ⟨rfl, rfl, rfl, rfl, rfl, rfl, trivial⟩, ?_⟩
    have : (rngV n fun x => Value.int .i64 (plTo f.terms k x)).setIfInBounds b (.int .i64 (k : Int)) = rngV n fun x => .int .i64 (plTo f.terms (k + 1) x) := by
      rw [rngV_set]
      refine rngV_congr fun x _ => ?_
      rw [plTo_succ hcl hb]
      by_cases e : x = b <;> simp [e]
    rw [← this]
    rfl
  have hke : ol = k := by
    have : ¬ (k : Int) < ol := by simpa using h
    omega
  subst hke
  have ePl : (rngV n fun x => Value.int .i64 (plTo f.terms ol x)) = (ints (plL f.terms)).toArray := by
    rw [hol, hn]
    simp [rngV, plL, ints, Function.comp_def]
  rw [ePl]
  clear hk hs h eP
  subst hLR
  refine Cd.exit (id := 0) ?_
  refine Cd.seq ?_
  refine Cd.region ?_
  refine Ol.p (fdl fd_api_Func_1) ?_
  refine Ol.p (ld one_L_api_Block (Rd.blk (i := 4) rfl rfl)) ?_
  refine Ol.p (lens sl_L_api_Block) ?_
  refine Ol.x (mks (n := f.blocks.length) (c := f.blocks.length) sl_L_L_int zr_L_int) ?_
  rintro _ _ ⟨gI, rfl, rfl⟩
  refine Ol.unrow fun csI hcsI hcsI2 => ?_
  have eI : csI = rngV n (headV (fun _ => (none, 0)) (preTo f.terms 0)) := by
    have h1 : csI.toList = (madeCells (Value.slice none 0 0).cells (f.blocks.length * 1)).toList.take (f.blocks.length * 1) := by
      rw [← hcsI2]; exact (List.take_of_length_le (by simp [hcsI])).symm
    have h2 : (madeCells (Value.slice none 0 0).cells (f.blocks.length * 1)).toList.take (f.blocks.length * 1) = List.replicate n (.slice none 0 0) := by
      rw [hnb, Nat.mul_one]
      apply List.ext_getElem?
      intro i
      by_cases hi : i < n
      · have e0 : (Value.slice none 0 0).cells = #[.slice none 0 0] := rfl
        simp [madeCells, hi, e0]
        rw [Nat.mod_one]; rfl
      · simp [madeCells, hi]
    apply Array.ext'
    have h3 : headV (fun _ => (none, 0)) (preTo f.terms 0) = fun _ => Value.slice none 0 0 := by funext x; unfold headV; rw [preTo_zero]; rfl
    rw [h1, h2, h3, ← rngV_rep]
    simp
  subst eI
  refine Ol.p ass ?_
  refine Ol.nil ?_
  refine Cd.seq ?_
  refine Cd.seq ?_
  refine Cd.region ?_
  refine Ol.p (ldw ag_api_Func (i := 5) rfl rfl) ?_
  refine Ol.x (sp_call en_flow_Edges (fun M' w' hh => flow_Edges_ct (hf.now hh) hfit)) ?_
  rintro _ _ ⟨_, rfl, A51, c51, rfl, rfl⟩
  refine Ol.p (lens sl_L_api_Edge) ?_
  refine Ol.p mvi ?_
  refine Ol.nil ?_
  have hse : (someE f.terms fun _ => true) = edges f.terms := by unfold someE; rw [hcl, cond_true]; simp
  rw [hse]
  obtain ⟨E, hE⟩ : ∃ E, E = edges f.terms := ⟨_, rfl⟩
  rw [← hE]
  have hEl : E.length ≤ 400 := by rw [hE, ← hse]; exact someE_len_le _ _
  refine Cd.block ?_   -- 2
  refine Cd.nrs n 3 ?_
  have hn0' : (fun x => ([] : List Int)) = preTo f.terms 0 := by funext x; rw [preTo_zero]
  rw [hn0']
  refine Cd.loop (fun m σ L => ∃ (k : Nat) (H : Heads), m = E.length - k ∧ k ≤ E.length ∧ Has σ [(2, .pointer (some ⟨g2, 0, none⟩)), (3, .slice (some ⟨gO, kO, none⟩) ol cO), (6, .slice (some ⟨gI, 0, none⟩) f.blocks.length f.blocks.length), (51, .slice A51 E.length c51), (52, .int .i64 E.length), (53, .int .i64 k)] ∧
      row (.slice A51 E.length c51) 47 3 E.length (edV E) :: madeR f n gI gP gU gO g2 g1 csO (Array.replicate n (.int .i64 (-1))) H (preTo f.terms k) = L) (n := E.length) ⟨0, _, rfl, Nat.zero_le _, ⟨rfl, rfl, rfl, rfl, rfl, rfl, trivial⟩, rfl⟩ ?_
  rintro _ σ L ⟨k, H, rfl, hk, hs, rfl⟩
  refine Cd.has hs ?_
  refine Cd.seq ?_
  refine Cd.region ?_
  refine Ol.p lsi ?_
  refine Ol.nil ?_
  refine Cd.seq ?_
  refine Cd.cond rfl (fun h => ?_) (fun h => ?_)   -- $54
  · have hlt : k < E.length := by simpa using h
    obtain ⟨e, he⟩ : ∃ e, E[k]? = some e := ⟨_, List.getElem?_eq_getElem hlt⟩
    have heE : (edges f.terms)[k]? = some e := by rw [← hE]; exact he
    have hem : e ∈ edges f.terms := List.mem_of_getElem? heE
    obtain ⟨_, _, hcle⟩ := closed_len hcl
    have hto := hcle e hem
    obtain ⟨b, hb⟩ : ∃ b : Nat, e.to = (b : Int) := ⟨e.to.toNat, by omega⟩
    have hbn : b < n := by omega
    have hplen := preTo_len f.terms k b
    unfold madeR
    refine Cd.skip ?_
    refine Cd.seq ?_
    refine Cd.block ?_   -- 3
    refine Cd.seq ?_
    refine Cd.region ?_
    refine Ol.p (ixn (ix := k) sl_L_api_Edge (Som.row (i := 0) rfl (by omega))) ?_
    refine Ol.p (ldr ag_api_Edge (i := 0) rfl e.len (fun j u hu => edV_get he hu)) ?_
    refine Ol.x (alc zr_api_Edge) ?_
    rintro _ _ ⟨g8, rfl, rfl⟩
    refine Ol.s (stw sz_api_Edge rfl e.one (i := 0) rfl rfl) ?_
    refine Ol.nil ?_
    refine Cd.drawT (L0 := (blk g8 (.cells e.cells.toArray 47) :: row (.slice A51 E.length c51) 47 3 E.length (edV E) :: blk gI (.cells (rngV n (headV H (preTo f.terms k))) 22) :: blk gP (.cells (ints (plL f.terms)).toArray 3) :: blk gU (.cells (Array.replicate n (.int .i64 (-1))) 3) :: blk gO (.cells csO 3) :: blk g2 (.cells #[.slice (some ⟨gU, 0, none⟩) n n, .slice (some ⟨gP, 0, none⟩) n n] 96) :: blk g1 (.cells f.cells.toArray 38) :: restP n 3 b H (preTo f.terms k))) mixed 13 (fun opNo => match opNo with | 10 => some (NewSv 3 1 1 1 [.int .i64 e.src]) | 11 => some (NewL 3 1 ((preTo f.terms k b).length + 1) (ints (preTo f.terms k b) ++ [Value.int .i64 e.src])) | 1000 => some ((fun v R => v = undef ∧ R = [row (.slice (H b).1 (preTo f.terms k b).length (H b).2) 3 1 (preTo f.terms k b).length (ints (preTo f.terms k b))])) | _ => none) (fun opNo => match opNo with | 11 => [1000, 10] | _ => []) (fun opNo => match opNo with | 11 => some 1000 | _ => none) [1000] (fun tokNo => match tokNo with | 1000 => [row (.slice (H b).1 (preTo f.terms k b).length (H b).2) 3 1 (preTo f.terms k b).length (ints (preTo f.terms k b))] | _ => []) (by kernel_rfl) ((List.Perm.append_left [_, _, _, _, _, _, _, _] (rowsP_perm hbn)).trans List.perm_middle) (by intro c hc; simp only [List.mem_cons, List.not_mem_nil, or_false] at hc; rcases hc with rfl <;> rfl) (by intro q V h; split at h <;> cases h; exact ⟨_, _, 0, rfl, rfl⟩; exact ⟨_, _, none, 0, rfl, rfl⟩; exact ⟨_, _, rfl, rfl⟩) (fun u hu hu0 => ?_)
    refine WkT.p mvs ?_
    refine WkT.p (fdl fd_api_Edge_2) ?_
    refine WkT.p (ld one_int (Rd.blk (i := 0) rfl rfl)) ?_
    refine WkT.p mvs ?_
    refine WkT.p (fdl fd_api_Edge_2) ?_
    refine WkT.p (ld one_int (Rd.blk (i := 0) rfl rfl)) ?_
    refine WkT.p (ixo1 (ix := b) sl_L_L_int (hy := congrArg (Value.int .i64) hb)) ?_
    refine WkT.p (ld (v := .slice (H b).1 (preTo f.terms k b).length (H b).2) one_L_int (Rd.blk (i := 2) rfl (rngV_get hbn))) ?_
    refine WkT.p (fdl fd_api_Edge_0) ?_
    refine WkT.p (ld one_int (Rd.blk (i := 0) rfl rfl)) ?_
    refine WkT.xn (V := NewSv 3 1 1 1 [.int .i64 e.src]) (l := []) (l2 := []) hu rfl rfl rfl (by rw [needs_none]; exact (NewS.adds (bsv [.int .i64 e.src] sl_L_int zr_int (by simp [Value.cells])))) ?_
    rintro _ _ hu10 ⟨g67, rfl, rfl⟩
    refine WkT.xn (V := NewL 3 1 ((preTo f.terms k b).length + 1) (ints (preTo f.terms k b) ++ [Value.int .i64 e.src])) (l := [1000, 10]) (l2 := [10]) hu rfl rfl rfl (by rw [needs_cons (hu0 1000 (by simp)), needs_cons hu10, needs_none]; exact (Grow.adds (apn (i := 0) (m := 1) sl_L_int zr_int rfl (by decide) rfl (Src.row (i := 1) rfl rfl) (by intro u hu; simp at hu; subst hu; rfl) (by unfold maxLen; omega) (by omega)))) ?_
    rintro _ _ hu11 ⟨A68, c68, rfl, rfl⟩
    refine WkT.p (ixo1 (ix := b) sl_L_L_int (hy := congrArg (Value.int .i64) hb)) ?_
    refine WkT.nil ?_
    change Ol _ _ _ _ _ (needs u [11, 10] _)
    rw [needs_cons hu11, needs_cons hu10, needs_none]
    refine Ol.s (sto (i := 4) (k := b) (.inr sz_L_int) rfl rfl rfl (by rw [rngV_size]; exact hbn) rfl) ?_
    refine Ol.keep (.sub (.cons_cons _ (.cons _ (.cons _ (List.Sublist.refl _))))) ?_
    refine Ol.nil ?_
    have hp1 : preTo f.terms (k + 1) b = preTo f.terms k b ++ [e.src] := by rw [preTo_succ heE, if_pos hb]
    have hp2 : ∀ x, x ≠ b → preTo f.terms k x = preTo f.terms (k + 1) x := fun x hx => by rw [preTo_succ heE, if_neg (by rw [hb]; omega)]
    have hp3 : (preTo f.terms k b).length + 1 = (preTo f.terms (k + 1) b).length := by rw [hp1]; simp
    have hp4 : ints (preTo f.terms k b) ++ [Value.int .i64 e.src] = ints (preTo f.terms (k + 1) b) := by rw [hp1]; simp [ints]
    rw [hp3, hp4]
    refine Cd.keep (L' := row (.slice A51 E.length c51) 47 3 E.length (edV E) :: madeR f n gI gP gU gO g2 g1 csO (Array.replicate n (.int .i64 (-1))) (fun x => if x = b then (A68, c68) else H x) (preTo f.terms (k + 1))) ⟨[], ?_⟩ ?_
    · rw [List.append_nil]
      unfold madeR
      rw [← headV_set hp2]
      exact (List.perm_middle (l₁ := [_, _, _, _, _, _, _])).symm.trans (List.Perm.append_left [_, _, _, _, _, _, _] (rowsP_set hbn hp2).symm)
    refine Cd.region ?_
    refine Ol.p addi ?_
    refine Ol.p mvi ?_
    refine Ol.nil ?_
    exact ⟨E.length - (k + 1), by omega, k + 1, _, rfl, by omega, ⟨rfl, rfl, rfl, rfl, rfl, rfl, trivial⟩, rfl⟩
  have hke : E.length = k := by
    have : ¬ (k : Int) < E.length := by simpa using h
    omega
  subst hke
  clear hk hs h
  have hxs : preTo f.terms E.length = preI f.terms := by funext x; rw [hE]; exact preTo_all _ _
  rw [hxs, ← ints_rep]
  refine Cd.exit (id := 2) ?_
  refine Cd.keep (.sub (.cons _ (List.Sublist.refl _))) ?_
  refine Cd.seq ?_
  refine Cd.seq ?_
  refine Cd.region ?_
  refine Ol.p asb ?_
  refine Ol.nil ?_
  obtain ⟨mu, hmu⟩ : ∃ mu : List Int → Nat, mu = muU ((orderF f.terms).idxOf ·) (orderF f.terms).length := ⟨_, rfl⟩
  have hps0 : Ps (gra f.terms hcl) (preF f.terms) (asU (List.replicate n (-1))) 1 := by rw [asU_rep]; exact Ps.start (gra_pos hcl)
  refine Cd.block ?_   -- 4
  refine Cd.loop (fun m σ L => ∃ (ul : List Int) (mv : Bool), m = 2 * mu ul + mv.toNat ∧ ul.length = n ∧ Ps (gra f.terms hcl) (preF f.terms) (asU ul) 1 ∧ (mv = false → FixU f.terms ul ∧ Ps (gra f.terms hcl) (preF f.terms) (asU ul) ol) ∧ Has σ [(2, .pointer (some ⟨g2, 0, none⟩)), (3, .slice (some ⟨gO, kO, none⟩) ol cO), (6, .slice (some ⟨gI, 0, none⟩) f.blocks.length f.blocks.length), (9, .bool mv)] ∧ madeR f n gI gP gU gO g2 g1 csO (ints ul).toArray H (preI f.terms) = L) (n := 2 * mu (List.replicate n (-1)) + 1) ⟨_, true, rfl, by simp, hps0, fun h => (by cases h), ⟨rfl, rfl, rfl, rfl, trivial⟩, rfl⟩ ?_
  rintro _ σ L ⟨ul0, mv, rfl, hul0, hps1, hfix0, hs, rfl⟩
  refine Cd.has hs ?_
  refine Cd.seq ?_
  refine Cd.seq ?_
  refine Cd.region ?_
  refine Ol.p mvb ?_
  refine Ol.nil ?_
  refine Cd.cond rfl (fun h => ?_) (fun h => ?_)   -- $71
  · subst h
    refine Cd.skip ?_
    refine Cd.block ?_   -- 5
    refine Cd.seq ?_
    refine Cd.region ?_
    refine Ol.p asb ?_
    refine Ol.nil ?_
    refine Cd.seq ?_
    refine Cd.region ?_
    refine Ol.p mvs ?_
    refine Ol.p (sll (l := 1) sl_L_int (by omega)) ?_
    refine Ol.p (lens sl_L_int) ?_
    refine Ol.p mvi ?_
    refine Ol.nil ?_
    generalize hA73 : (if cO = 1 then some (⟨gO, kO, none⟩ : Addr) else (some (⟨gO, kO, none⟩ : Addr)).map (·.add (1 * 1))) = A73
    refine Cd.block ?_   -- 6
    refine Cd.loop (fun m σ L => ∃ (k : Nat) (ul : List Int) (mv : Bool), m = (ol - 1) - k ∧ k ≤ ol - 1 ∧ ul.length = n ∧ Ps (gra f.terms hcl) (preF f.terms) (asU ul) (k + 1) ∧ (mv = false → ul = ul0 ∧ ∀ b ∈ orderF f.terms, b ≠ 0 → (orderF f.terms).idxOf b < k + 1 → Eva (asU ul) (preF f.terms b) (asU ul b)) ∧ (mv = true → mu ul < mu ul0) ∧
        Has σ [(2, .pointer (some ⟨g2, 0, none⟩)), (3, .slice (some ⟨gO, kO, none⟩) ol cO), (6, .slice (some ⟨gI, 0, none⟩) f.blocks.length f.blocks.length), (9, .bool mv), (73, .slice A73 (ol - 1) (cO - 1)), (74, .int .i64 ((ol - 1 : Nat) : Int)), (75, .int .i64 k)] ∧ madeR f n gI gP gU gO g2 g1 csO (ints ul).toArray H (preI f.terms) = L) (n := ol - 1)
      ⟨0, ul0, false, rfl, Nat.zero_le _, hul0, hps1, fun _ => ⟨rfl, fun b hb hb0 hi => ?_⟩, fun h => by (cases h), ⟨rfl, rfl, rfl, rfl, rfl, rfl, rfl, trivial⟩, rfl⟩ ?_
    · exfalso
      have h1 : (orderF f.terms).idxOf b = 0 := by omega
      exact hb0 ((gra f.terms hcl).inj b 0 hb (order_zero hcl) (by rw [(gra f.terms hcl).pl0]; exact h1))
    rintro _ σ L ⟨k, ul, mv, rfl, hk, hul, hps, hfx, hlow, hs, rfl⟩
    refine Cd.has hs ?_
    refine Cd.seq ?_
    refine Cd.region ?_
    refine Ol.p lsi ?_
    refine Ol.nil ?_
    refine Cd.seq ?_
    refine Cd.cond rfl (fun h => ?_) (fun h => ?_)   -- $76
    · have hlt : k < ol - 1 := by simpa using h
      have hA : A73 = some ⟨gO, kO + 1, none⟩ := by
        rw [← hA73, if_neg (by omega)]
        simp [add_lit_]
      obtain ⟨b, hb⟩ : ∃ b, (orderF f.terms)[k + 1]? = some b := ⟨_, List.getElem?_eq_getElem (by omega)⟩
      have hbm : b ∈ orderF f.terms := List.mem_of_getElem? hb
      have hbn := holt b hbm
      have hbi : (orderF f.terms).idxOf b = k + 1 := by
        have h1 := List.getElem_idxOf (List.idxOf_lt_length_of_mem hbm)
        have h3 : (orderF f.terms)[(orderF f.terms).idxOf b]? = (orderF f.terms)[k + 1]? := by
          rw [hb, List.getElem?_eq_getElem (List.idxOf_lt_length_of_mem hbm), h1]
        exact (List.getElem?_inj (List.idxOf_lt_length_of_mem hbm) (order_nodup hcl)).1 h3
      have hb0 : b ≠ 0 := fun e => by
        subst e
        have := (gra f.terms hcl).pl0
        have h2 : (orderF f.terms).idxOf 0 = 0 := this
        omega
      have hpar := (gra f.terms hcl).par b hbm hb0
      have hubv := ints_get' (asU_get (ul := ul) (b := b) (by omega))
      have hmeet : ∀ (M : List Res) (w' : World), Hp w w.heap.size (M ++ madeR f n gI gP gU gO g2 g1 csO (ints ul).toArray H (preI f.terms)) w' → ∀ q a : Nat, Pr (asU ul) q → Pr (asU ul) a →
          Ct Tryd.prog 81 #[treeV (some ⟨gU, 0, none⟩) (some ⟨gP, 0, none⟩) n n n n, .int .i64 (q : Int), .int .i64 (a : Int)] w' (fun v R => ∃ m : Nat, v = .int .i64 (m : Int) ∧ Meet (asU ul) q a m ∧ R = []) := fun M w' hh q a hq ha => by
        have := dom_meet_ct (w := w') (AU := some ⟨gU, 0, none⟩) (AP := some ⟨gP, 0, none⟩) (cU := n) (cP := n) (ul := ul) (pl := plL f.terms) (G := gra f.terms hcl) (Reads.blk hh (i := 2) rfl (by simp [ints]) (fun j u hu => by simpa using hu)) (Reads.blk hh (i := 1) rfl (by simp [ints]) (fun j u hu => by simpa using hu)) hps.tr
          (fun x hx => by rw [plL_get (by rw [← hn]; exact holt x hx), if_pos (show x ∈ orderF f.terms from hx)]; rfl) (fun x hx => ⟨by rw [hul]; exact holt x hx, by rw [plL_len, ← hn]; exact holt x hx⟩) hq ha
        rw [hul, plL_len, ← hn] at this
        exact this
      refine Cd.skip ?_
      refine Cd.mid (fun σ' L' => ∃ (ul' : List Int) (mv' : Bool), ul'.length = n ∧ Ps (gra f.terms hcl) (preF f.terms) (asU ul') (k + 2) ∧ (mv' = false → ul' = ul0 ∧ ∀ b ∈ orderF f.terms, b ≠ 0 → (orderF f.terms).idxOf b < k + 2 → Eva (asU ul') (preF f.terms b) (asU ul' b)) ∧ (mv' = true → mu ul' < mu ul0) ∧
          Has σ' [(2, .pointer (some ⟨g2, 0, none⟩)), (3, .slice (some ⟨gO, kO, none⟩) ol cO), (6, .slice (some ⟨gI, 0, none⟩) f.blocks.length f.blocks.length), (9, .bool mv'), (73, .slice A73 (ol - 1) (cO - 1)), (74, .int .i64 ((ol - 1 : Nat) : Int)), (75, .int .i64 k)] ∧ madeR f n gI gP gU gO g2 g1 csO (ints ul').toArray H (preI f.terms) = L') ?_ ?_
      · subst hA
        refine Cd.block ?_   -- 7
        refine Cd.seq ?_
        unfold madeR
        refine Cd.region ?_
        refine Ol.p (ixo (ix := k) sl_L_int) ?_
        refine Ol.p (ld (v := .int .i64 (b : Int)) one_int (Rd.blk (k := kO + 1 + k * 1) (i := 3) rfl (by rw [Nat.mul_one, show kO + 1 + k = kO + (k + 1) by omega]; exact hOget (k + 1) b hb))) ?_
        refine Ol.p asi ?_
        refine Ol.nil ?_
        refine Cd.seq ?_
        refine Cd.region ?_
        refine Ol.p asi ?_
        refine Ol.nil ?_
        refine Cd.seq ?_
        refine Cd.seq ?_
        refine Cd.region ?_
        refine Ol.p mvs ?_
        refine Ol.p mvi ?_
        refine Ol.p (ixo1 (ix := b) sl_L_L_int) ?_
        refine Ol.p (ld (v := .slice (H b).1 (preI f.terms b).length (H b).2) one_L_int (Rd.blk (i := 0) rfl (rngV_get hbn))) ?_
        refine Ol.p (lens sl_L_int) ?_
        refine Ol.p mvi ?_
        refine Ol.nil ?_
        have hpl : (preI f.terms b).length = (preF f.terms b).length := by simp [preI]
        have hpl4 : (preI f.terms b).length ≤ 400 := by
          simp only [preI, preF, List.length_map]
          exact Nat.le_trans (List.length_filter_le _ _) (by rw [← hE]; exact hEl)
        refine Cd.block ?_   -- 8
        refine Cd.loop (fun m σ L => ∃ (j : Nat) (r : Int), m = (preI f.terms b).length - j ∧ j ≤ (preI f.terms b).length ∧ Eva (asU ul) ((preF f.terms b).take j) r ∧ Has σ [(2, .pointer (some ⟨g2, 0, none⟩)), (3, .slice (some ⟨gO, kO, none⟩) ol cO), (6, .slice (some ⟨gI, 0, none⟩) f.blocks.length f.blocks.length), (9, .bool mv), (11, .int .i64 b), (12, .int .i64 r), (73, .slice (some ⟨gO, kO + 1, none⟩) (ol - 1) (cO - 1)), (74, .int .i64 ((ol - 1 : Nat) : Int)), (75, .int .i64 k), (82, .slice (H b).1 (preI f.terms b).length (H b).2), (83, .int .i64 (preI f.terms b).length), (84, .int .i64 j)] ∧ madeR f n gI gP gU gO g2 g1 csO (ints ul).toArray H (preI f.terms) = L) (n := (preI f.terms b).length) ⟨0, -1, rfl, Nat.zero_le _, Eva.nil, ⟨rfl, rfl, rfl, rfl, rfl, rfl, rfl, rfl, rfl, rfl, rfl, rfl, trivial⟩, rfl⟩ ?_
        clear hs
        rintro _ σ L ⟨j, r, rfl, hj, hev, hs, rfl⟩
        refine Cd.has hs ?_
        refine Cd.seq ?_
        refine Cd.region ?_
        refine Ol.p lsi ?_
        refine Ol.nil ?_
        refine Cd.seq ?_
        refine Cd.cond rfl (fun h2 => ?_) (fun h2 => ?_)   -- $85
        · have hjl : j < (preI f.terms b).length := by simpa using h2
          obtain ⟨a, ha⟩ : ∃ a, (preF f.terms b)[j]? = some a := ⟨_, List.getElem?_eq_getElem (by omega)⟩
          have hav : (ints (preI f.terms b))[j]? = some (.int .i64 (a : Int)) := ints_get' (by simp [preI, ha])
          have haE := mem_preF.1 (List.mem_of_getElem? ha)
          have han : a < n := by have := (toAt_lt hcl haE).2.2; omega
          have huav := ints_get' (asU_get (ul := ul) (b := a) (by omega))
          have htake := take_snoc_ ha
          refine Cd.skip ?_
          refine Cd.mid (fun σ' L' => ∃ r' : Int, Eva (asU ul) ((preF f.terms b).take (j + 1)) r' ∧ Has σ' [(2, .pointer (some ⟨g2, 0, none⟩)), (3, .slice (some ⟨gO, kO, none⟩) ol cO), (6, .slice (some ⟨gI, 0, none⟩) f.blocks.length f.blocks.length), (9, .bool mv), (11, .int .i64 b), (12, .int .i64 r'), (73, .slice (some ⟨gO, kO + 1, none⟩) (ol - 1) (cO - 1)), (74, .int .i64 ((ol - 1 : Nat) : Int)), (75, .int .i64 k), (82, .slice (H b).1 (preI f.terms b).length (H b).2), (83, .int .i64 (preI f.terms b).length), (84, .int .i64 j)] ∧ madeR f n gI gP gU gO g2 g1 csO (ints ul).toArray H (preI f.terms) = L') ?_ ?_
          · rw [htake]
            refine Cd.block ?_   -- 9
            refine Cd.seq ?_
            unfold madeR
            refine Cd.region ?_
            refine Ol.p (ixn1 (ix := j) sl_L_int (Som.row (i := b + 6) (rowsP_get hbn) (by omega))) ?_
            refine Ol.p (ld one_int (Rd.row (i := b + 6) (rowsP_get hbn) hav)) ?_
            refine Ol.p asi ?_
            refine Ol.nil ?_
            refine Cd.block ?_   -- 10
            refine Cd.mid (fun σ' L' => Has σ' [(2, .pointer (some ⟨g2, 0, none⟩)), (3, .slice (some ⟨gO, kO, none⟩) ol cO), (6, .slice (some ⟨gI, 0, none⟩) f.blocks.length f.blocks.length), (9, .bool mv), (11, .int .i64 b), (12, .int .i64 r), (14, .int .i64 a), (73, .slice (some ⟨gO, kO + 1, none⟩) (ol - 1) (cO - 1)), (74, .int .i64 ((ol - 1 : Nat) : Int)), (75, .int .i64 k), (82, .slice (H b).1 (preI f.terms b).length (H b).2), (83, .int .i64 (preI f.terms b).length), (84, .int .i64 j), (92, .bool (!decide (a = 0) && decide (asU ul a < 0)))] ∧ madeR f n gI gP gU gO g2 g1 csO (ints ul).toArray H (preI f.terms) = L') ?_ ?_
            · cases h0 : decide ((a : Int) = 0) with
              | true =>
                have ha0 : a = 0 := by simp at h0; omega
                have hg2 : (!decide ((a : Int) = 0)) = false := by rw [h0]; rfl
                refine Cd.region ?_
                refine Ol.p mvi ?_
                refine Ol.p nei ?_
                refine Ol.p mvb ?_
                refine Ol.gn hg2 ?_
                refine Ol.gn hg2 ?_
                refine Ol.gn hg2 ?_
                refine Ol.gn hg2 ?_
                refine Ol.gn hg2 ?_
                refine Ol.gn hg2 ?_
                refine Ol.p (pkFb hg2) ?_
                refine Ol.p asb ?_
                refine Ol.nil ?_
                refine ⟨⟨rfl, rfl, rfl, rfl, rfl, rfl, rfl, rfl, rfl, rfl, rfl, rfl, rfl, ?_, trivial⟩, rfl⟩
                subst ha0; rfl
              | false =>
                have ha0 : a ≠ 0 := by simp at h0; omega
                have hg2 : (!decide ((a : Int) = 0)) = true := by rw [h0]; rfl
                refine Cd.region ?_
                refine Ol.p mvi ?_
                refine Ol.p nei ?_
                refine Ol.p mvb ?_
                refine Ol.gp hg2 (fdl fd_dom_tree_0) ?_
                refine Ol.gp hg2 (ld one_L_int (Rd.blk (i := 4) rfl rfl)) ?_
                refine Ol.gp hg2 mvi ?_
                refine Ol.gp hg2 (ixo1 (ix := a) sl_L_int) ?_
                refine Ol.gp hg2 (ld one_int (Rd.blk (i := 2) rfl (by simpa using huav))) ?_
                refine Ol.gp hg2 lsi ?_
                refine Ol.p (pkTb hg2) ?_
                refine Ol.p asb ?_
                refine Ol.nil ?_
                refine ⟨⟨rfl, rfl, rfl, rfl, rfl, rfl, rfl, rfl, rfl, rfl, rfl, rfl, rfl, ?_, trivial⟩, rfl⟩
                simp [ha0, updO, upd]
            rintro σ' _ ⟨hs', rfl⟩
            refine Cd.has hs' ?_
            refine Cd.cond rfl (fun h3 => ?_) (fun h3 => ?_)   -- $92
            · have hnp : ¬ Pr (asU ul) a := by
                simp only [Bool.and_eq_true, Bool.not_eq_true', decide_eq_false_iff_not, decide_eq_true_eq] at h3
                rintro (e | e)
                · exact h3.1 e
                · omega
              refine Cd.skip ?_
              exact ⟨r, hev.skip hnp, ⟨rfl, rfl, rfl, rfl, rfl, rfl, rfl, rfl, rfl, rfl, rfl, rfl, trivial⟩, rfl⟩
            have hpa : Pr (asU ul) a := by
              by_cases e : a = 0
              · exact .inl e
              · right
                simp [e] at h3
                omega
            refine Cd.seq ?_
            refine Cd.region ?_
            refine Ol.p mvi ?_
            refine Ol.p lsi ?_
            refine Ol.p asb ?_
            refine Ol.nil ?_
            refine Cd.cond rfl (fun h4 => ?_) (fun h4 => ?_)   -- $103
            · have hr1 : r = -1 := by
                simp only [decide_eq_true_eq] at h4
                rcases hev with ⟨e, _⟩ | ⟨m, e, _⟩
                · exact e
                · omega
              subst hr1
              refine Cd.region ?_
              refine Ol.p mvi ?_
              refine Ol.p asi ?_
              refine Ol.nil ?_
              exact ⟨(a : Int), hev.first hpa, ⟨rfl, rfl, rfl, rfl, rfl, rfl, rfl, rfl, rfl, rfl, rfl, rfl, trivial⟩, rfl⟩
            obtain ⟨q, hq⟩ : ∃ q : Nat, r = (q : Int) := by
              simp only [decide_eq_false_iff_not] at h4
              exact ⟨r.toNat, by omega⟩
            subst hq
            have hpq : Pr (asU ul) q := by
              rcases hev with ⟨e, _⟩ | ⟨m, e, hm, _⟩
              · omega
              · have : m = q := by omega
                subst this; exact hm
            refine Cd.region ?_
            refine Ol.p (ldw ag_dom_tree (i := 4) rfl rfl) ?_
            refine Ol.p mvi ?_
            refine Ol.p mvi ?_
            refine Ol.x (sp_call en_dom_tree_meet (fun M w' hh => hmeet M w' hh q a hpq hpa)) ?_
            rintro _ _ ⟨_, rfl, m, rfl, hm, rfl⟩
            refine Ol.p asi ?_
            refine Ol.nil ?_
            exact ⟨(m : Int), hev.meet hps.tr hpa hm, ⟨rfl, rfl, rfl, rfl, rfl, rfl, rfl, rfl, rfl, rfl, rfl, rfl, trivial⟩, rfl⟩
          rintro σ' _ ⟨r', hev', hs', rfl⟩
          refine Cd.has hs' ?_
          refine Cd.region ?_
          refine Ol.p addi ?_
          refine Ol.p mvi ?_
          refine Ol.nil ?_
          exact ⟨(preI f.terms b).length - (j + 1), by omega, j + 1, r', rfl, by omega, hev', ⟨rfl, rfl, rfl, rfl, rfl, rfl, rfl, rfl, rfl, rfl, rfl, rfl, trivial⟩, rfl⟩
        have hje : (preF f.terms b).take j = preF f.terms b := by
          have : ¬ (j : Int) < (preI f.terms b).length := by simpa using h2
          exact List.take_of_length_le (by omega)
        rw [hje] at hev
        refine Cd.exit (id := 8) ?_
        refine Cd.seq ?_
        unfold madeR
        refine Cd.region ?_
        refine Ol.p mvi ?_
        refine Ol.p (fdl fd_dom_tree_0) ?_
        refine Ol.p (ld one_L_int (Rd.blk (i := 4) rfl rfl)) ?_
        refine Ol.p mvi ?_
        refine Ol.p (ixo1 (ix := b) sl_L_int) ?_
        refine Ol.p (ld one_int (Rd.blk (i := 2) rfl (by simpa using hubv))) ?_
        refine Ol.p nei ?_
        refine Ol.nil ?_
        refine Cd.cond rfl (fun h3 => ?_) (fun h3 => ?_)   -- $114
        · have hne : r ≠ asU ul b := by simpa using h3
          obtain ⟨m, hm⟩ : ∃ m : Nat, r = (m : Int) := by
            rcases hev with ⟨_, e2⟩ | ⟨m, e, _⟩
            · exact absurd (hps.j5 _ hpar.1 (by have := hpar.2.2; have h5 : (gra f.terms hcl).pl b = k + 1 := hbi; omega)) (e2 _ (mem_preF.2 hpar.2.1))
            · exact ⟨m, e⟩
          subst hm
          refine Cd.region ?_
          refine Ol.p (fdl fd_dom_tree_0) ?_
          refine Ol.p (ld one_L_int (Rd.blk (i := 4) rfl rfl)) ?_
          refine Ol.p mvi ?_
          refine Ol.p mvi ?_
          refine Ol.p (ixo1 (ix := b) sl_L_int) ?_
          refine Ol.s (sto (i := 2) (k := b) (.inr sz_int) rfl rfl rfl (by rw [ints_size]; omega) rfl) ?_
          refine Ol.p asb ?_
          refine Ol.nil ?_
          refine ⟨ul.set b (m : Int), true, by simpa using hul, ?_, fun h => (by cases h), fun _ => ?_, ⟨rfl, rfl, rfl, rfl, rfl, rfl, rfl, trivial⟩, ?_⟩
          · rw [asU_set (by omega)]
            exact hps.turn hbm hb0 hbi (fun a => mem_preF) hev
          · have h6 : mu (ul.set b (m : Int)) < mu ul := by rw [hmu]; exact hps.lower hbm hb0 hbi hev hne (by omega)
            cases mv with
            | true => have := hlow rfl; omega
            | false => rw [(hfx rfl).1] at h6; rw [(hfx rfl).1]; exact h6
          · rw [← ints_set]
            rfl
        have heq : r = asU ul b := by simpa using h3
        refine Cd.skip ?_
        refine ⟨ul, mv, hul, ?_, fun hmv => ⟨(hfx hmv).1, fun c hc hc0 hci => ?_⟩, hlow, ⟨rfl, rfl, rfl, rfl, rfl, rfl, rfl, trivial⟩, rfl⟩
        · exact hps.keep hbm hb0 hbi (mem_preF.2 hpar.2.1) (by rw [← heq]; exact hev)
        · by_cases e : (orderF f.terms).idxOf c = k + 1
          · have : c = b := (gra f.terms hcl).inj c b hc hbm (by show (orderF f.terms).idxOf c = (orderF f.terms).idxOf b; omega)
            subst this
            rw [← heq]; exact hev
          · exact (hfx hmv).2 c hc hc0 (by omega)
      rintro σ' _ ⟨ul', mv', hul', hps', hfx', hlow', hs', rfl⟩
      refine Cd.has hs' ?_
      refine Cd.region ?_
      refine Ol.p addi ?_
      refine Ol.p mvi ?_
      refine Ol.nil ?_
      exact ⟨(ol - 1) - (k + 1), by omega, k + 1, ul', mv', rfl, by omega, hul', hps', hfx', hlow', ⟨rfl, rfl, rfl, rfl, rfl, rfl, rfl, trivial⟩, rfl⟩
    have hke : k + 1 = ol := by
      have : ¬ (k : Int) < ((ol - 1 : Nat) : Int) := by simpa using h
      omega
    rw [hke] at hps
    refine Cd.exit (id := 6) ?_
    have hall : ∀ c, (gra f.terms hcl).R c → (gra f.terms hcl).pl c < ol := fun c hc => by rw [hol]; exact List.idxOf_lt_length_of_mem hc
    refine ⟨2 * mu ul + mv.toNat, ?_, ul, mv, rfl, hul, hps.again hall (gra_pos hcl), fun hmv => ⟨fun c hc hc0 => (hfx hmv).2 c hc hc0 (by have := hall c hc; show (orderF f.terms).idxOf c < k + 1; rw [hke]; exact this), hps⟩, ⟨rfl, rfl, rfl, rfl, trivial⟩, rfl⟩
    cases mv with
    | true => have := hlow rfl; simp; omega
    | false => rw [(hfx rfl).1]; simp
  subst h
  obtain ⟨hfx, hpsN⟩ := hfix0 rfl
  have hall : ∀ c, (gra f.terms hcl).R c → (gra f.terms hcl).pl c < ol := fun c hc => by rw [hol]; exact List.idxOf_lt_length_of_mem hc
  have hD : DomU f.terms ul0 := ⟨by rw [hul0, hn], fun hc => hpsN.fin hall (fun a b => mem_preF) hfx⟩
  have hD2 := domL_spec hD
  have hDe := hD.eqL hcl
  subst hDe
  refine Cd.exit (id := 4) ?_
  refine Cd.seq ?_
  unfold madeR
  refine Cd.region ?_
  refine Ol.p (ldw ag_dom_tree (i := 4) rfl rfl) ?_
  refine Ol.s (stw (vs := #[.slice (some ⟨gU, 0, none⟩) n n, .slice (some ⟨gP, 0, none⟩) n n]) sz_dom_tree rfl (by intro u hu; simp at hu; rcases hu with rfl | rfl <;> rfl) (i := 4) rfl rfl) ?_
  refine Ol.nil ?_
  subst hn
  exact Cd.ret ⟨_, retc rfl ag_dom_tree rfl (i := 4) rfl rfl, _, .sub (.cons _ (.cons_cons _ (.cons_cons _ (List.nil_sublist _)))), .inr ⟨hcl, hD2, gU, gP, rfl, rfl⟩⟩
end
end Go.Proofs.YtbcnejobnmljlaaDoor

