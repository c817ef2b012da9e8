/- The law 10: its small functions, walked. -/
import Derived.Test.YtbcnejobnmljlaaDoorFlow2
import Derived.Test.YtbcnejobnmljlaaDoorFlow3
import Derived.Test.YtbcnejobnmljlaaDoorOrder
import Derived.Test.YtbcnejobnmljlaaDoorStruct
namespace Go.Proofs.YtbcnejobnmljlaaDoor
set_option linter.unusedVariables false
open Go Go.RowKit
set_option maxRecDepth 100000

section
theorem law10_place_ct {w : World} {A : Option Addr} {c : Nat} {l : List Int} {n : Int} (hl : Reads w w.heap.size 1 A l.length (ints l)) (hb : l.length < 2 ^ 62) :
    Ct Tryd.prog 29 #[.slice A l.length c, .int .i64 n] w (Is (.int .i64 (indexI (fun x => decide (x = n)) l))) := by
  refine Ct.mk Tryd.func29 rfl rfl ?_
  refine Cd.seq ?_
  refine Cd.region ?_
  refine Ol.p asi ?_
  refine Ol.nil ?_
  refine Cd.seq ?_
  refine Cd.seq ?_
  refine Cd.region ?_
  refine Ol.p asi ?_
  refine Ol.nil ?_
  refine Cd.block ?_
  refine Cd.loop (fun m σ L => ∃ k, m = l.length - k ∧ k ≤ l.length ∧ Has σ [(0, .slice A l.length c), (1, .int .i64 n), (5, .int .i64 k)] ∧ L = [] ∧ ∀ i y, i < k → l[i]? = some y → decide (y = n) = false) (n := l.length) ⟨0, rfl, Nat.zero_le _, ⟨rfl, rfl, rfl, trivial⟩, rfl, fun i y h => by omega⟩ ?_
  rintro _ σ L ⟨k, rfl, hk, hs, rfl, hno⟩
  refine Cd.has hs ?_
  refine Cd.seq ?_
  refine Cd.seq ?_
  refine Cd.region ?_
  refine Ol.p mvi ?_
  refine Ol.p mvs ?_
  refine Ol.p (lens sl_L_int) ?_
  refine Ol.p lsi ?_
  refine Ol.nil ?_
  refine Cd.cond rfl (fun h => ?_) (fun h => ?_)
  · have hlt : k < l.length := by simpa using h
    refine Cd.skip ?_
    refine Cd.seq ?_
    refine Cd.block ?_
    refine Cd.seq ?_
    refine Cd.region ?_
    refine Ol.p mvs ?_
    refine Ol.p mvi ?_
    refine Ol.p (ixn1 sl_L_int (Som.slc hl (by omega))) ?_
    refine Ol.p (ld one_int (Rd.slc hl (ints_get hlt))) ?_
    refine Ol.p mvi ?_
    refine Ol.p eqi ?_
    refine Ol.nil ?_
    refine Cd.cond rfl (fun h2 => ?_) (fun h2 => ?_)
    · refine Cd.seq ?_
      refine Cd.region ?_
      refine Ol.p mvi ?_
      refine Ol.p asi ?_
      refine Ol.nil ?_
      refine Cd.ret ⟨_, ret1 rfl rfl, [], .nil, ?_, rfl⟩
      rw [indexI_at (List.getElem?_eq_getElem hlt) h2 hno]
      rfl
    · refine Cd.skip ?_
      refine Cd.region ?_
      refine Ol.p mvi ?_
      refine Ol.p addi ?_
      refine Ol.p asi ?_
      refine Ol.nil ?_
      refine ⟨l.length - (k + 1), by omega, k + 1, rfl, by omega, ⟨rfl, rfl, rfl, trivial⟩, rfl, ?_⟩
      intro i y hi hy
      rcases Nat.lt_or_ge i k with h3 | h3
      · exact hno i y h3 hy
      · have : i = k := by omega
        subst this
        rw [List.getElem?_eq_getElem hlt] at hy
        cases hy
        exact h2
  · have hge : k = l.length := by
      have : ¬ (k : Int) < l.length := by simpa using h
      omega
    subst hge
    refine Cd.exit (id := 0) ?_
    refine Cd.seq ?_
    refine Cd.region ?_
    refine Ol.p asi ?_
    refine Ol.nil ?_
    refine Cd.ret ⟨_, ret1 rfl rfl, [], .nil, ?_, rfl⟩
    rw [indexI_none hno]
    rfl
def natsI (l : List Nat) : List Int := l.map fun n : Nat => (n : Int)
theorem natsI_len (l : List Nat) : (natsI l).length = l.length := by simp [natsI]
theorem natsI_ints (l : List Nat) : ints (natsI l) = intsN l := by simp [natsI, ints, intsN, Function.comp_def]
theorem law10_place_nat {w : World} {A : Option Addr} {c : Nat} {l : List Nat} {n : Int} (hl : Reads w w.heap.size 1 A l.length (intsN l)) (hb : l.length < 2 ^ 62) :
    Ct Tryd.prog 29 #[.slice A l.length c, .int .i64 n] w (Is (.int .i64 (indexI (fun x => decide (x = n)) (natsI l)))) := by
  have h := law10_place_ct (c := c) (n := n) (l := natsI l) (w := w) (A := A) (by rw [natsI_len, natsI_ints]; exact hl) (by rw [natsI_len]; exact hb)
  rw [natsI_len] at h
  exact h
end

section
theorem ints_eq_of {a b : List Int} (hl : a.length = b.length) (h : ∀ i x y, i < a.length → a[i]? = some x → b[i]? = some y → x = y) : a = b := by
  apply List.ext_getElem hl
  intro i h1 h2
  exact h i _ _ h1 (List.getElem?_eq_getElem h1) (List.getElem?_eq_getElem h2)
theorem kit_SameInts_ct {w : World} {A B : Option Addr} {c d : Nat} {a b : List Int} (ha : Reads w w.heap.size 1 A a.length (ints a)) (hb : Reads w w.heap.size 1 B b.length (ints b)) (hal : a.length < 2 ^ 62) (hbl : b.length < 2 ^ 62) :
    Ct Tryd.prog 53 #[.slice A a.length c, .slice B b.length d] w (Is (.bool (decide (a = b)))) := by
  refine Ct.mk Tryd.func53 rfl rfl ?_
  refine Cd.seq ?_
  refine Cd.region ?_
  refine Ol.p asb ?_
  refine Ol.nil ?_
  refine Cd.seq ?_
  refine Cd.seq ?_
  refine Cd.region ?_
  refine Ol.p mvs ?_
  refine Ol.p (lens sl_L_int) ?_
  refine Ol.p mvs ?_
  refine Ol.p (lens sl_L_int) ?_
  refine Ol.p nei ?_
  refine Ol.nil ?_
  refine Cd.cond rfl (fun h => ?_) (fun h => ?_)
  · refine Cd.seq ?_
    refine Cd.region ?_
    refine Ol.p asb ?_
    refine Ol.nil ?_
    refine Cd.ret ⟨_, ret1 rfl rfl, [], .nil, ?_, rfl⟩
    have hne : a ≠ b := fun e => by subst e; simp at h
    rw [decide_eq_false hne]; rfl
  have hll : a.length = b.length := by
    have : (a.length : Int) = b.length := by simpa using h
    omega
  refine Cd.skip ?_
  refine Cd.seq ?_
  refine Cd.seq ?_
  refine Cd.region ?_
  refine Ol.p asi ?_
  refine Ol.nil ?_
  refine Cd.block ?_
  refine Cd.loop (fun m σ L => ∃ k, m = a.length - k ∧ k ≤ a.length ∧ Has σ [(0, .slice A a.length c), (1, .slice B b.length d), (5, .int .i64 k)] ∧ L = [] ∧ ∀ i x y, i < k → a[i]? = some x → b[i]? = some y → x = y) (n := a.length) ⟨0, rfl, Nat.zero_le _, ⟨rfl, rfl, rfl, trivial⟩, rfl, fun i x y h => by omega⟩ ?_
  rintro _ σ L ⟨k, rfl, hk, hs, rfl, hyes⟩
  refine Cd.has hs ?_
  refine Cd.seq ?_
  refine Cd.seq ?_
  refine Cd.region ?_
  refine Ol.p mvi ?_
  refine Ol.p mvs ?_
  refine Ol.p (lens sl_L_int) ?_
  refine Ol.p lsi ?_
  refine Ol.nil ?_
  refine Cd.cond rfl (fun h => ?_) (fun h => ?_)
  · have hlt : k < a.length := by simpa using h
    have hlt2 : k < b.length := by omega
    refine Cd.skip ?_
    refine Cd.seq ?_
    refine Cd.block ?_
    refine Cd.seq ?_
    refine Cd.draw mixed 9 (fun _ => none) (fun _ => []) (by kernel_rfl) (fun _ _ h => by cases h) (fun u hu => ?_)
    refine Wk.p mvs ?_
    refine Wk.p mvi ?_
    refine Wk.p (ixn1 sl_L_int (Som.slc ha (by omega))) ?_
    refine Wk.p (ld one_int (Rd.slc ha (ints_get hlt))) ?_
    refine Wk.p mvs ?_
    refine Wk.p mvi ?_
    refine Wk.p (ixn1 sl_L_int (Som.slc hb (by omega))) ?_
    refine Wk.p (ld one_int (Rd.slc hb (ints_get hlt2))) ?_
    refine Wk.p nei ?_
    refine Wk.nil ?_
    refine Ol.nil ?_
    refine Cd.cond rfl (fun h2 => ?_) (fun h2 => ?_)
    · refine Cd.seq ?_
      refine Cd.region ?_
      refine Ol.p asb ?_
      refine Ol.nil ?_
      refine Cd.ret ⟨_, ret1 rfl rfl, [], .nil, ?_, rfl⟩
      have hne : a ≠ b := fun e => by subst e; simp at h2
      rw [decide_eq_false hne]; rfl
    · refine Cd.skip ?_
      refine Cd.region ?_
      refine Ol.p mvi ?_
      refine Ol.p addi ?_
      refine Ol.p asi ?_
      refine Ol.nil ?_
      refine ⟨a.length - (k + 1), by omega, k + 1, rfl, by omega, ⟨rfl, rfl, rfl, trivial⟩, rfl, ?_⟩
      intro i x y hi hx hy
      rcases Nat.lt_or_ge i k with h3 | h3
      · exact hyes i x y h3 hx hy
      · have : i = k := by omega
        subst this
        rw [List.getElem?_eq_getElem hlt] at hx
        rw [List.getElem?_eq_getElem hlt2] at hy
        cases hx; cases hy
        simpa using h2
  · have hge : k = a.length := by
      have : ¬ (k : Int) < a.length := by simpa using h
      omega
    subst hge
    refine Cd.exit (id := 0) ?_
    refine Cd.seq ?_
    refine Cd.region ?_
    refine Ol.p asb ?_
    refine Ol.nil ?_
    refine Cd.ret ⟨_, ret1 rfl rfl, [], .nil, ?_, rfl⟩
    rw [decide_eq_true (ints_eq_of hll hyes)]; rfl
end

section
theorem law10_branch_ct {w : World} {x y : Int} : Ct Tryd.prog 50 #[.int .i64 x, .int .i64 y] w (Is (RBlk.val ⟨none, 0, [], ⟨2, 1, x, y⟩⟩)) := by
  refine Ct.mk Tryd.func50 rfl rfl ?_
  refine Cd.seq ?_
  refine Cd.region ?_
  refine Ol.x (alc zr_api_Block) ?_
  rintro _ _ ⟨g4, rfl, rfl⟩
  refine Ol.nil ?_
  refine Cd.seq ?_
  refine Cd.region ?_
  refine Ol.p mvi ?_
  refine Ol.p mvi ?_
  refine Ol.p (bda (cs := #[.int .i64 x, .int .i64 y]) ar_A2_int zr_A2_int (hf := by kernel_rfl)) ?_
  refine Ol.p (bds (cs := #[.int .i64 2, .int .i64 1, .int .i64 x, .int .i64 y]) bs_api_Term zr_api_Term (hf := by kernel_rfl)) ?_
  refine Ol.p (bds (cs := #[.slice none 0 0, .int .i64 2, .int .i64 1, .int .i64 x, .int .i64 y]) bs_api_Block zr_api_Block (hf := by kernel_rfl)) ?_
  refine Ol.s (stw (vs := #[.slice none 0 0, .int .i64 2, .int .i64 1, .int .i64 x, .int .i64 y]) sz_api_Block rfl (by intro u hu; simp at hu; rcases hu with rfl | rfl | rfl | rfl | rfl <;> rfl) (i := 0) rfl rfl) ?_
  refine Ol.nil ?_
  refine Cd.ret ⟨_, retc rfl ag_api_Block rfl (i := 0) rfl rfl, [], .nil, rfl, rfl⟩
theorem law10_jump_ct {w : World} {x : Int} : Ct Tryd.prog 51 #[.int .i64 x] w (Is (RBlk.val ⟨none, 0, [], ⟨1, 0, x, 0⟩⟩)) := by
  refine Ct.mk Tryd.func51 rfl rfl ?_
  refine Cd.seq ?_
  refine Cd.region ?_
  refine Ol.x (alc zr_api_Block) ?_
  rintro _ _ ⟨g2, rfl, rfl⟩
  refine Ol.nil ?_
  refine Cd.seq ?_
  refine Cd.region ?_
  refine Ol.p mvi ?_
  refine Ol.p (bda (cs := #[.int .i64 x, .int .i64 0]) ar_A2_int zr_A2_int (hf := by kernel_rfl)) ?_
  refine Ol.p (bds (cs := #[.int .i64 1, .int .i64 0, .int .i64 x, .int .i64 0]) bs_api_Term zr_api_Term (hf := by kernel_rfl)) ?_
  refine Ol.p (bds (cs := #[.slice none 0 0, .int .i64 1, .int .i64 0, .int .i64 x, .int .i64 0]) bs_api_Block zr_api_Block (hf := by kernel_rfl)) ?_
  refine Ol.s (stw (vs := #[.slice none 0 0, .int .i64 1, .int .i64 0, .int .i64 x, .int .i64 0]) sz_api_Block rfl (by intro u hu; simp at hu; rcases hu with rfl | rfl | rfl | rfl | rfl <;> rfl) (i := 0) rfl rfl) ?_
  refine Ol.nil ?_
  refine Cd.ret ⟨_, retc rfl ag_api_Block rfl (i := 0) rfl rfl, [], .nil, rfl, rfl⟩
theorem law10_trap_ct {w : World} : Ct Tryd.prog 52 #[] w (Is (RBlk.val ⟨none, 0, [], ⟨4, 0, 0, 0⟩⟩)) := by
  refine Ct.mk Tryd.func52 rfl rfl ?_
  refine Cd.seq ?_
  refine Cd.region ?_
  refine Ol.x (alc zr_api_Block) ?_
  rintro _ _ ⟨g0, rfl, rfl⟩
  refine Ol.nil ?_
  refine Cd.seq ?_
  refine Cd.region ?_
  refine Ol.p (bds (cs := #[.int .i64 4, .int .i64 0, .int .i64 0, .int .i64 0]) bs_api_Term zr_api_Term (hf := by kernel_rfl)) ?_
  refine Ol.p (bds (cs := #[.slice none 0 0, .int .i64 4, .int .i64 0, .int .i64 0, .int .i64 0]) bs_api_Block zr_api_Block (hf := by kernel_rfl)) ?_
  refine Ol.s (stw (vs := #[.slice none 0 0, .int .i64 4, .int .i64 0, .int .i64 0, .int .i64 0]) sz_api_Block rfl (by intro u hu; simp at hu; rcases hu with rfl | rfl | rfl | rfl | rfl <;> rfl) (i := 0) rfl rfl) ?_
  refine Ol.nil ?_
  refine Cd.ret ⟨_, retc rfl ag_api_Block rfl (i := 0) rfl rfl, [], .nil, rfl, rfl⟩
end

section
def Faw (g : Nat) : RFun := ⟨none, 0, [], some ⟨g, 0, none⟩, 3, [⟨none, 0, [], ⟨2, 1, 1, 2⟩⟩, ⟨none, 0, [], ⟨1, 0, 2, 0⟩⟩, ⟨none, 0, [], ⟨4, 0, 0, 0⟩⟩]⟩
def Taw : List Tm := [⟨2, 1, 1, 2⟩, ⟨1, 0, 2, 0⟩, ⟨4, 0, 0, 0⟩]
theorem Faw_fit (g : Nat) : Fit (Faw g) := by
  constructor <;> simp [Faw]
theorem Reads.none_ {w : World} {B s : Nat} : Reads w B s none 0 [] := ⟨by simp, fun h => absurd h (by omega)⟩
theorem Faw_at {w : World} {B g : Nat} (h : Reads w B 5 (some ⟨g, 0, none⟩) 3 ((Faw g).blocks.flatMap RBlk.cells)) : FunAt w B (Faw g) := by
  refine ⟨Reads.none_, h, ?_, ?_⟩
  · intro b hb
    simp [Faw] at hb
    rcases hb with rfl | rfl | rfl <;> exact Reads.none_
  · intro b hb i hi
    simp [Faw] at hb
    rcases hb with rfl | rfl | rfl <;> simp at hi
theorem law10_awake_ct {w : World} : Ct Tryd.prog 23 #[] w (Is (.bool true)) := by
  have hC0 : someE Taw (critE Taw) = [⟨0, 1, 2⟩] := by kernel_rfl
  have hO0 : orderF Taw = [0, 1, 2] := by kernel_rfl
  have hE0 : someE Taw (fun _ => true) = [⟨0, 0, 1⟩, ⟨0, 1, 2⟩, ⟨1, 0, 2⟩] := by kernel_rfl
  have hC : ∀ g, someE (Faw g).terms (critE (Faw g).terms) = [⟨0, 1, 2⟩] := fun g => hC0
  have hO : ∀ g, orderF (Faw g).terms = [0, 1, 2] := fun g => hO0
  have hE : ∀ g, someE (Faw g).terms (fun _ => true) = [⟨0, 0, 1⟩, ⟨0, 1, 2⟩, ⟨1, 0, 2⟩] := fun g => hE0
  refine Ct.mk Tryd.func23 rfl rfl ?_
  refine Cd.seq ?_
  refine Cd.region ?_
  refine Ol.p asb ?_
  refine Ol.nil ?_
  refine Cd.seq ?_
  refine Cd.region ?_
  refine Ol.s (cl en_law10_branch (fun M w' hh => law10_branch_ct)) ?_
  refine Ol.s (cl en_law10_jump (fun M w' hh => law10_jump_ct)) ?_
  refine Ol.s (cl en_law10_trap (fun M w' hh => law10_trap_ct)) ?_
  refine Ol.x (bsn [RBlk.val ⟨none, 0, [], ⟨2, 1, 1, 2⟩⟩, RBlk.val ⟨none, 0, [], ⟨1, 0, 2, 0⟩⟩, RBlk.val ⟨none, 0, [], ⟨4, 0, 0, 0⟩⟩] sl_L_api_Block zr_api_Block (by intro v hv; simp at hv; rcases hv with rfl | rfl | rfl <;> rfl) rfl (by decide) (by decide)) ?_
  rintro _ _ ⟨g6, rfl, rfl⟩
  refine Ol.p (bds (cs := #[.slice none 0 0, .slice (some ⟨g6, 0, none⟩) 3 3]) bs_api_Func zr_api_Func (hf := by kernel_rfl)) ?_
  refine Ol.x (alc zr_api_Func) ?_
  rintro _ _ ⟨g1, rfl, rfl⟩
  refine Ol.s (stw (vs := #[.slice none 0 0, .slice (some ⟨g6, 0, none⟩) 3 3]) sz_api_Func rfl (by intro u hu; simp at hu; rcases hu with rfl | rfl <;> rfl) (i := 0) rfl rfl) ?_
  refine Ol.nil ?_
  refine Cd.seq ?_
  refine Cd.region ?_
  refine Ol.p (ldw ag_api_Func (i := 0) rfl rfl) ?_
  refine Ol.x (sp_call en_flow_Critical (fun M' w' hh => (by have h := flow_Critical_ct (f := Faw g6) (w := w') (Faw_at (Reads.row hh (i := 1) rfl)) (Faw_fit g6); rw [hC g6] at h; exact h))) ?_
  rintro _ _ ⟨_, rfl, A9, c9, rfl, rfl⟩
  refine Ol.p ass ?_
  refine Ol.nil ?_
  refine Cd.seq ?_
  refine Cd.region ?_
  refine Ol.p (ldw ag_api_Func (i := 1) rfl rfl) ?_
  refine Ol.x (sp_call en_flow_Order (fun M' w' hh => (by have h := flow_Order_ct (f := Faw g6) (w := w') (Faw_at (Reads.row hh (i := 2) rfl)) (Faw_fit g6); rw [hO g6] at h; exact h))) ?_
  rintro _ _ ⟨_, rfl, ⟨h0, _⟩ | ⟨gO, kO, cO, csO, rfl, rfl, hl, hx⟩⟩; · cases h0
  refine Ol.x (bsv [.int .i64 0, .int .i64 1, .int .i64 2] sl_L_int zr_int (by simp [Value.cells])) ?_
  rintro _ _ ⟨g12, rfl, rfl⟩
  refine Ol.s (cl en_kit_SameInts (fun M w' hh => kit_SameInts_ct (a := [0, 1, 2]) (b := [0, 1, 2]) (Reads.blk hh (i := 1) rfl hl hx) (Reads.row hh (i := 0) rfl) (by decide) (by decide))) ?_
  refine Ol.p mvb ?_
  refine Ol.gp rfl mvs ?_
  refine Ol.gp rfl (lens sl_L_api_Edge) ?_
  refine Ol.gp rfl eqi ?_
  refine Ol.p (pkTb rfl) ?_
  refine Ol.p mvb ?_
  refine Ol.gp rfl mvs ?_
  refine Ol.gp rfl (ixn (ix := 0) sl_L_api_Edge (Som.row (i := 2) rfl (by decide)) (h := by decide)) ?_
  refine Ol.gp rfl (ldr (es := Ed.cells ⟨0, 1, 2⟩) (i := 2) (k := 0) ag_api_Edge rfl rfl (fun j u h => by simpa [edV] using h)) ?_
  refine Ol.gp rfl (bds (cs := (Ed.cells ⟨0, 1, 2⟩).toArray) bs_api_Edge zr_api_Edge (hf := by kernel_rfl)) ?_
  refine Ol.gp rfl (eqs (n := 3) (a := [0, 1, 2]) (b := [0, 1, 2]) st_api_Edge rfl rfl) ?_
  refine Ol.p (pkTb rfl) ?_
  refine Ol.p mvb ?_
  refine Ol.gp rfl (ldw ag_api_Func (i := 3) rfl rfl) ?_
  refine Ol.gx rfl (sp_call en_flow_Edges (fun M' w' hh => (by have h := flow_Edges_ct (f := Faw g6) (w := w') (Faw_at (Reads.row hh (i := 4) rfl)) (Faw_fit g6); rw [hE g6] at h; exact h))) ?_
  rintro _ _ ⟨_, rfl, A28, c28, rfl, rfl⟩
  refine Ol.gp rfl (lens sl_L_api_Edge) ?_
  refine Ol.gp rfl eqi ?_
  refine Ol.p (pkTb rfl) ?_
  refine Ol.p asb ?_
  refine Ol.nil ?_
  refine Cd.ret ⟨.bool _, ret1 rfl rfl, [], .nil, rfl, rfl⟩
end
