/- The package dom: the tree, walked. -/
import Derived.Test.YtbcnejobnmljlaaDomF
import Derived.Test.YtbcnejobnmljlaaNRows
import Derived.Test.YtbcnejobnmljlaaRepeat
import Derived.Test.YtbcnejobnmljlaaOrder
import Derived.Test.YtbcnejobnmljlaaCountsLaw
import Derived.Test.YtbcnejobnmljlaaCount
import Derived.Test.YtbcnejobnmljlaaLaw10
import Derived.Test.YtbcnejobnmljlaaFlow3
namespace Go.Proofs.Ytbcnejobnmljlaa
set_option linter.unusedVariables false
open Go Go.RowKit
set_option maxRecDepth 100000

theorem uint_ltn {a : Int} {n : Nat} (h : -9223372036854775808 ≤ a ∧ a ≤ 9223372036854775807) (hn : n < 2 ^ 50) : decide (IntKind.u64.wrap a < IntKind.u64.wrap (n : Int)) = (decide (0 ≤ a) && decide (a < (n : Int))) := by
  rw [wrapU, wrapU]
  by_cases h1 : 0 ≤ a <;> by_cases h2 : a < (n : Int) <;> simp [h1, h2] <;> omega
theorem ints_get' {l : List Int} {k : Nat} {n : Int} (h : l[k]? = some n) : (ints l)[k]? = some (.int .i64 n) := by simp [ints, h]
section
def treeV (AU AP : Option Addr) (nU nP cU cP : Nat) : Value := .agg #[.slice AU nU cU, .slice AP nP cP]
set_option maxHeartbeats 1000000 in
theorem dom_meet_ct {w : World} {AU AP : Option Addr} {cU cP : Nat} {ul pl : List Int} {G : Gra} {a b : Nat} (hU : Reads w w.heap.size 1 AU ul.length (ints ul)) (hP : Reads w w.heap.size 1 AP pl.length (ints pl)) (ht : Tr G (asU ul))
    (hpl : ∀ x, G.R x → pl[x]? = some (G.pl x : Int)) (hlen : ∀ x, G.R x → x < ul.length ∧ x < pl.length) (ha : Pr (asU ul) a) (hb : Pr (asU ul) b) :
    Ct Try.prog 23 #[treeV AU AP ul.length pl.length cU cP, .int .i64 (a : Int), .int .i64 (b : Int)] w (fun v R => ∃ m : Nat, v = .int .i64 (m : Int) ∧ Meet (asU ul) a b m ∧ R = []) := by
  refine Ct.mk Try.func23 rfl rfl ?_
  refine Cd.seq ?_
  refine Cd.region ?_
  refine Ol.x bxg ?_
  rintro _ _ ⟨g3, rfl, rfl⟩
  refine Ol.p asi ?_
  refine Ol.nil ?_
  refine Cd.seq ?_
  refine Cd.block ?_   -- 0
  obtain ⟨L0, hL0⟩ : ∃ L0, L0 = [blk g3 (.cells #[.slice AU ul.length cU, .slice AP pl.length cP] 57)] := ⟨_, rfl⟩
  refine Cd.loop (fun m σ L => ∃ a' b' : Nat, m = G.pl a' + G.pl b' ∧ Pr (asU ul) a' ∧ Pr (asU ul) b' ∧ (∀ m, Meet (asU ul) a' b' m → Meet (asU ul) a b m) ∧ Has σ [(1, .int .i64 (a' : Int)), (2, .int .i64 (b' : Int)), (3, .pointer (some ⟨g3, 0, none⟩))] ∧ L0 = L) (n := G.pl a + G.pl b) ⟨a, b, rfl, ha, hb, fun _ h => h, ⟨rfl, rfl, rfl, trivial⟩, hL0⟩ ?_
  rintro _ σ L ⟨a', b', rfl, ha', hb', hm, hs, rfl⟩
  have hRa := ha'.reached ht
  have hRb := hb'.reached ht
  refine Cd.has hs ?_
  refine Cd.seq ?_
  refine Cd.seq ?_
  refine Cd.region ?_
  refine Ol.p mvi ?_
  refine Ol.p mvi ?_
  refine Ol.p nei ?_
  refine Ol.nil ?_
  refine Cd.cond rfl (fun h => ?_) (fun h => ?_)   -- $9
  · have hne : a' ≠ b' := by
      simp only [Bool.not_eq_true', decide_eq_false_iff_not] at h
      intro e
      exact h (by rw [e])
    have hpa := ints_get' (hpl a' hRa)
    have hpb := ints_get' (hpl b' hRb)
    have hua := ints_get' (asU_get (hlen a' hRa).1)
    have hub := ints_get' (asU_get (hlen b' hRb).1)
    have hla := hlen a' hRa
    have hlb := hlen b' hRb
    subst hL0
    refine Cd.skip ?_
    refine Cd.block ?_   -- 1
    refine Cd.seq ?_
    refine Cd.draw mixed 11 (fun _ => none) (fun _ => []) (by kernel_rfl) (fun _ _ h => by cases h) (fun u hu => ?_)
    refine Wk.p (fdl fd_dom_tree_1) ?_
    refine Wk.p (ld one_L_int (Rd.blk (i := 0) rfl rfl)) ?_
    refine Wk.p mvi ?_
    refine Wk.p (ixn1 (ix := a') sl_L_int (Som.slc hP (by omega))) ?_
    refine Wk.p (ld one_int (Rd.slc hP hpa)) ?_
    refine Wk.p (fdl fd_dom_tree_1) ?_
    refine Wk.p (ld one_L_int (Rd.blk (i := 0) rfl rfl)) ?_
    refine Wk.p mvi ?_
    refine Wk.p (ixn1 (ix := b') sl_L_int (Som.slc hP (by omega))) ?_
    refine Wk.p (ld one_int (Rd.slc hP hpb)) ?_
    refine Wk.p gti ?_
    refine Wk.nil ?_
    refine Ol.nil ?_
    refine Cd.cond rfl (fun h2 => ?_) (fun h2 => ?_)   -- $20
    · have hlt : G.pl b' < G.pl a' := by simp only [decide_eq_true_eq] at h2; omega
      have h0 : 0 ≤ asU ul a' := by
        rcases ha' with e | e
        · rw [e, G.pl0] at hlt; omega
        · exact e
      have hup := ht.up a' h0
      have hcast : ((asU ul a').toNat : Int) = asU ul a' := by omega
      refine Cd.region ?_
      refine Ol.p (fdl fd_dom_tree_0) ?_
      refine Ol.p (ld one_L_int (Rd.blk (i := 0) rfl rfl)) ?_
      refine Ol.p mvi ?_
      refine Ol.p (ixn1 (ix := a') sl_L_int (Som.slc hU (by omega))) ?_
      refine Ol.p (ld one_int (Rd.slc hU hua)) ?_
      refine Ol.p asi ?_
      refine Ol.nil ?_
      rw [← hcast]
      exact ⟨_, by have := hup.2.2.1; show G.pl (asU ul a').toNat + G.pl b' < _; omega, (asU ul a').toNat, b', rfl, hup.2.2.2, hb', fun m h => hm m (Meet.left ht h0 hlt h), ⟨rfl, rfl, rfl, trivial⟩, rfl⟩
    have hlt : G.pl a' < G.pl b' := by
      simp only [decide_eq_false_iff_not] at h2
      have : G.pl a' ≠ G.pl b' := fun e => hne (G.inj a' b' hRa hRb e)
      omega
    have h0 : 0 ≤ asU ul b' := by
      rcases hb' with e | e
      · rw [e, G.pl0] at hlt; omega
      · exact e
    have hup := ht.up b' h0
    have hcast : ((asU ul b').toNat : Int) = asU ul b' := by omega
    refine Cd.region ?_
    refine Ol.p (fdl fd_dom_tree_0) ?_
    refine Ol.p (ld one_L_int (Rd.blk (i := 0) rfl rfl)) ?_
    refine Ol.p mvi ?_
    refine Ol.p (ixn1 (ix := b') sl_L_int (Som.slc hU (by omega))) ?_
    refine Ol.p (ld one_int (Rd.slc hU hub)) ?_
    refine Ol.p asi ?_
    refine Ol.nil ?_
    rw [← hcast]
    exact ⟨_, by have := hup.2.2.1; show G.pl a' + G.pl (asU ul b').toNat < _; omega, a', (asU ul b').toNat, rfl, ha', hup.2.2.2, fun m h => hm m (Meet.right ht h0 hlt h), ⟨rfl, rfl, rfl, trivial⟩, rfl⟩
  have he : a' = b' := by
    simp only [Bool.not_eq_false', decide_eq_true_eq] at h
    omega
  subst he
  refine Cd.exit (id := 0) ?_
  refine Cd.seq ?_
  refine Cd.region ?_
  refine Ol.p mvi ?_
  refine Ol.p asi ?_
  refine Ol.nil ?_
  exact Cd.ret ⟨.int .i64 _, ret1 rfl rfl, [], .nil, a', rfl, hm _ Meet.same, rfl⟩
theorem dom_reached_ct {w : World} {AU AP : Option Addr} {cU cP nU : Nat} {pl : List Int} {b : Int} (hP : Reads w w.heap.size 1 AP pl.length (ints pl)) (hl : pl.length < 2 ^ 50) (hb : -9223372036854775808 ≤ b ∧ b ≤ 9223372036854775807) :
    Ct Try.prog 22 #[treeV AU AP nU pl.length cU cP, .int .i64 b] w (Is (.bool (inP pl b))) := by
  refine Ct.mk Try.func22 rfl rfl ?_
  refine Cd.seq ?_
  refine Cd.region ?_
  refine Ol.x bxg ?_
  rintro _ _ ⟨g2, rfl, rfl⟩
  refine Ol.p asb ?_
  refine Ol.nil ?_
  have hu := uint_ltn hb hl
  refine Cd.seq ?_
  cases h7 : (decide (0 ≤ b) && decide (b < (pl.length : Int))) with
  | true =>
    simp only [Bool.and_eq_true, decide_eq_true_eq] at h7
    have hlt : b.toNat < pl.length := by omega
    have hcast : ((b.toNat : Nat) : Int) = b := by omega
    have hv : pl[b.toNat]? = some (pl.getD b.toNat (-1)) := by rw [List.getD_eq_getElem?_getD, List.getElem?_eq_getElem hlt]; rfl
    have hT : decide (IntKind.u64.wrap b < IntKind.u64.wrap (pl.length : Int)) = true := by rw [hu]; simp [h7]
    refine Cd.region ?_
    refine Ol.p mvi ?_
    refine Ol.p (cvw in_int in_uint) ?_
    refine Ol.p (fdl fd_dom_tree_1) ?_
    refine Ol.p (ld one_L_int (Rd.blk (i := 0) rfl rfl)) ?_
    refine Ol.p (lens sl_L_int) ?_
    refine Ol.p (cvw in_int in_uint) ?_
    refine Ol.p lsi ?_
    refine Ol.p mvb ?_
    refine Ol.gp hT (fdl fd_dom_tree_1) ?_
    refine Ol.gp hT (ld one_L_int (Rd.blk (i := 0) rfl rfl)) ?_
    refine Ol.gp hT mvi ?_
    refine Ol.gp hT (ixn1 (ix := b.toNat) sl_L_int (Som.slc hP (by omega)) (hy := congrArg (Value.int .i64) hcast.symm)) ?_
    refine Ol.gp hT (ld one_int (Rd.slc hP (ints_get' hv))) ?_
    refine Ol.gp hT gei ?_
    refine Ol.p (pkTb hT) ?_
    refine Ol.p asb ?_
    refine Ol.nil ?_
    refine Cd.ret ⟨.bool _, ret1 rfl rfl, [], .nil, ?_, rfl⟩
    unfold inP
    simp [h7]
  | false =>
    have hF : decide (IntKind.u64.wrap b < IntKind.u64.wrap (pl.length : Int)) = false := by rw [hu]; exact h7
    refine Cd.region ?_
    refine Ol.p mvi ?_
    refine Ol.p (cvw in_int in_uint) ?_
    refine Ol.p (fdl fd_dom_tree_1) ?_
    refine Ol.p (ld one_L_int (Rd.blk (i := 0) rfl rfl)) ?_
    refine Ol.p (lens sl_L_int) ?_
    refine Ol.p (cvw in_int in_uint) ?_
    refine Ol.p lsi ?_
    refine Ol.p mvb ?_
    refine Ol.gn hF ?_
    refine Ol.gn hF ?_
    refine Ol.gn hF ?_
    refine Ol.gn hF ?_
    refine Ol.gn hF ?_
    refine Ol.gn hF ?_
    refine Ol.p (pkFb hF) ?_
    refine Ol.p asb ?_
    refine Ol.nil ?_
    refine Cd.ret ⟨.bool _, ret1 rfl rfl, [], .nil, ?_, rfl⟩
    unfold inP
    rw [h7]; rfl
end
theorem ints_rep (n : Nat) (z : Int) : (ints (List.replicate n z)).toArray = Array.replicate n (.int .i64 z) := by
  apply Array.ext'
  simp [ints]
theorem ints_size (l : List Int) : ((ints l).toArray).size = l.length := by simp [ints]
theorem ints_set (l : List Int) (k : Nat) (n : Int) : ((ints l).toArray).setIfInBounds k (.int .i64 n) = (ints (l.set k n)).toArray := by
  apply Array.ext'
  simp [ints, List.map_set]
section
/-- The tree of a function: of one that is closed each block's immediate dominator, and its place. -/
def TreeV (ts : List Tm) : Value → List Res → Prop := fun v R => (closed ts = false ∧ v = treeV none none 0 0 0 0 ∧ R = []) ∨
  (closed ts = true ∧ DomU ts (domL ts) ∧ ∃ gU gP, v = treeV (some ⟨gU, 0, none⟩) (some ⟨gP, 0, none⟩) ts.length ts.length ts.length ts.length ∧ R = [blk gP (.cells (ints (plL ts)).toArray 3), blk gU (.cells (ints (domL ts)).toArray 3)])
def preI (ts : List Tm) (x : Nat) : List Int := (preF ts x).map fun n : Nat => (n : Int)
/-- What is held while the tree is made. -/
def madeR (f : RFun) (n gI gP gU gO g2 g1 : Nat) (csO U : Array Value) (H : Heads) (xs : Nat → List Int) : List Res :=
  blk gI (.cells (rngV n (headV H xs)) 22) :: blk gP (.cells (ints (plL f.terms)).toArray 3) :: blk gU (.cells U 3) :: blk gO (.cells csO 3) :: blk g2 (.cells #[.slice (some ⟨gU, 0, none⟩) n n, .slice (some ⟨gP, 0, none⟩) n n] 57) :: blk g1 (.cells f.cells.toArray 25) :: rowsP n 3 H xs
theorem headV_set {n b : Nat} {H : Heads} {xs xs' : Nat → List Int} {A : Option Addr} {c : Nat} (hx : ∀ x, x ≠ b → xs x = xs' x) : (rngV n (headV H xs)).setIfInBounds b (.slice A (xs' b).length c) = rngV n (headV (fun x => if x = b then (A, c) else H x) xs') := by
  rw [rngV_set]
  refine rngV_congr fun x _ => ?_
  unfold headV
  by_cases e : x = b
  · subst e; simp
  · simp [e, hx x e]
theorem rowsP_set {n e b : Nat} {H : Heads} {xs xs' : Nat → List Int} {A : Option Addr} {c : Nat} (hb : b < n) (hx : ∀ x, x ≠ b → xs x = xs' x) : (rowsP n e (fun x => if x = b then (A, c) else H x) xs').Perm (row (.slice A (xs' b).length c) e 1 (xs' b).length (ints (xs' b)) :: restP n e b H xs) := by
  have h1 := rowsP_perm (n := n) (e := e) (b := b) (H := fun x => if x = b then (A, c) else H x) (xs := xs') hb
  have h2 : restP n e b (fun x => if x = b then (A, c) else H x) xs' = restP n e b H xs := restP_congr fun x hne => ⟨by simp [hne], (hx x hne).symm⟩
  rw [h2] at h1
  simpa using h1
def FixU (ts : List Tm) (ul : List Int) : Prop := ∀ b ∈ orderF ts, b ≠ 0 → Eva (asU ul) (preF ts b) (asU ul b)
set_option maxHeartbeats 8000000 in
theorem dom_made_ct {w : World} {f : RFun} (hf : FunAt w w.heap.size f) (hfit : Fit f) : Ct Try.prog 20 #[f.val] w (TreeV f.terms) := by
  have hbl := hfit.blen
  have htl : f.terms.length = f.blocks.length := by simp [RFun.terms]
  refine Ct.mk Try.func20 rfl rfl ?_
  refine Cd.seq ?_
  refine Cd.region ?_
  refine Ol.x bxg ?_
  rintro _ _ ⟨g1, rfl, rfl⟩
  refine Ol.x (alc zr_dom_tree) ?_
  rintro _ _ ⟨g2, rfl, rfl⟩
  refine Ol.nil ?_
  refine Cd.seq ?_
  refine Cd.seq ?_
  refine Cd.region ?_
  refine Ol.p (ldw ag_api_Func (i := 1) rfl rfl) ?_
  refine Ol.s (cl en_flow_Closed (fun M w' hh => flow_Closed_ct (hf.now hh) hfit)) ?_
  refine Ol.p noti ?_
  refine Ol.nil ?_
  refine Cd.cond rfl (fun h => ?_) (fun h => ?_)   -- $17
  · have hcl : closed f.terms = false := by simpa using h
    refine Cd.seq ?_
    refine Cd.region ?_
    refine Ol.p (ldw ag_dom_tree (i := 0) rfl rfl) ?_
    refine Ol.s (stw (vs := #[.slice none 0 0, .slice none 0 0]) sz_dom_tree rfl (by intro u hu; simp at hu; subst hu; rfl) (i := 0) rfl rfl) ?_
    refine Ol.nil ?_
    exact Cd.ret ⟨_, retc rfl ag_dom_tree rfl (i := 0) rfl rfl, [], .nil, .inl ⟨hcl, rfl, rfl⟩⟩
  have hcl : closed f.terms = true := by simpa using h
  obtain ⟨hn0, hn200⟩ := closed_le hcl
  obtain ⟨n, hn⟩ : ∃ n, n = f.terms.length := ⟨_, rfl⟩
  have hnb : f.blocks.length = n := by rw [hn, htl]
  have hon : (orderF f.terms).length ≤ n := by rw [hn]; exact order_len_le hcl
  have holt : ∀ x ∈ orderF f.terms, x < n := fun x hx => by rw [hn]; exact order_lt hcl hx
  obtain ⟨tl, hord⟩ := order_head hcl
  refine Cd.skip ?_
  refine Cd.seq ?_
  refine Cd.region ?_
  refine Ol.p (ldw ag_api_Func (i := 1) rfl rfl) ?_
  refine Ol.x (sp_call en_flow_Order (fun M w' hh => flow_Order_ct2 (hf.now hh) hfit)) ?_
  rintro _ _ ⟨_, rfl, ⟨h0, _⟩ | ⟨gO, kO, cO, csO, rfl, rfl, hOl, hOc, hOx⟩⟩; (rw [hord] at h0; simp at h0)
  refine Ol.p ass ?_
  refine Ol.nil ?_
  obtain ⟨ol, hol⟩ : ∃ ol, ol = (orderF f.terms).length := ⟨_, rfl⟩
  have hol1 : 1 ≤ ol := by rw [hol, hord]; simp
  rw [← hol] at hOc hon ⊢
  have hOget : ∀ (k b : Nat), (orderF f.terms)[k]? = some b → csO[kO + k]? = some (.int .i64 (b : Int)) := fun k b hk => hOx k _ (intsN_get hk)
  refine Cd.seq ?_
  refine Cd.draw mixed 11 (fun opNo => match opNo with | 0 => some (NewSv 3 1 1 1 [.int .i64 (-1)]) | 4 => some (RepV 3 n (-1)) | 5 => some (NewSv 3 1 1 1 [.int .i64 (-1)]) | 9 => some (RepV 3 n (-1)) | _ => none) (fun opNo => match opNo with | 4 => [0] | 9 => [5] | _ => []) (by kernel_rfl) (by intro q V h; split at h <;> cases h; exact ⟨_, _, 0, rfl, rfl⟩; exact ⟨_, _, 0, rfl, rfl⟩; exact ⟨_, _, 0, rfl, rfl⟩; exact ⟨_, _, 0, rfl, rfl⟩) (fun u hu => ?_)
  refine Wk.x (V := NewSv 3 1 1 1 [.int .i64 (-1)]) hu (NewS.adds (bsv [.int .i64 (-1)] sl_L_int zr_int (by simp [Value.cells]))) ?_
  rintro _ _ hu0 ⟨g21, rfl, rfl⟩
  refine Wk.p (fdl fd_api_Func_1) ?_
  refine Wk.p (ld one_L_api_Block (Rd.blk (i := 2) rfl rfl)) ?_
  refine Wk.p (lens sl_L_api_Block) ?_
  refine Wk.xn (V := RepV 3 n (-1)) hu (l := [0]) rfl (by simp) (by rw [needs_cons hu0, needs_none]; exact (by rw [← hnb]; exact sp_call en_slices_Repeat_L_int_int (fun M w' hh => slices_Repeat_one (Reads.row hh (i := 0) rfl) (by omega) (by omega)))) ?_
  rintro _ _ hu4 ⟨gU, rfl, rfl⟩
  refine Wk.x (V := NewSv 3 1 1 1 [.int .i64 (-1)]) hu (NewS.adds (bsv [.int .i64 (-1)] sl_L_int zr_int (by simp [Value.cells]))) ?_
  rintro _ _ hu5 ⟨g26, rfl, rfl⟩
  refine Wk.p (fdl fd_api_Func_1) ?_
  refine Wk.p (ld one_L_api_Block (Rd.blk (i := 2) rfl rfl)) ?_
  refine Wk.p (lens sl_L_api_Block) ?_
  refine Wk.xn (V := RepV 3 n (-1)) hu (l := [5]) rfl (by simp) (by rw [needs_cons hu5, needs_none]; exact (by rw [← hnb]; exact sp_call en_slices_Repeat_L_int_int (fun M w' hh => slices_Repeat_one (Reads.row hh (i := 0) rfl) (by omega) (by omega)))) ?_
  rintro _ _ hu9 ⟨gP, rfl, rfl⟩
  refine Wk.p (fdl fd_dom_tree_0) ?_
  refine Wk.nil ?_
  rw [needs_cons hu9, needs_cons hu5, needs_cons hu4, needs_cons hu0, needs_none]
  refine Ol.s (sto (i := 5) (k := 0) (.inr sz_L_int) rfl rfl rfl (by exact (by decide : 0 < 2)) rfl) ?_
  refine Ol.p (fdl fd_dom_tree_1) ?_
  refine Ol.s (sto (i := 5) (k := 1) (.inr sz_L_int) rfl rfl rfl (by exact (by decide : 1 < 2)) rfl) ?_
  refine Ol.keep (.sub (.cons_cons _ (.cons _ (.cons_cons _ (.cons _ (List.Sublist.refl _)))))) ?_
  refine Ol.nil ?_
  have eP : Array.replicate n (Value.int .i64 (-1)) = rngV n fun x => .int .i64 (plTo f.terms 0 x) := by
    rw [rngV_rep]
    exact rngV_congr fun i _ => by rw [plTo_zero]
  rw (occs := .pos [1]) [eP]
  obtain ⟨LR, hLR⟩ : ∃ LR, LR = [blk gU (.cells (Array.replicate n (.int .i64 (-1))) 3), blk gO (.cells csO 3), blk g2 (.cells #[.slice (some ⟨gU, 0, none⟩) n n, .slice (some ⟨gP, 0, none⟩) n n] 57), blk g1 (.cells f.cells.toArray 25)] := ⟨_, rfl⟩
  refine Cd.seq ?_
  refine Cd.seq ?_
  refine Cd.region ?_
  refine Ol.p mvs ?_
  refine Ol.p (lens sl_L_int) ?_
  refine Ol.p mvi ?_
  refine Ol.nil ?_
  refine Cd.block ?_   -- 0
  refine Cd.loop (fun m σ L => ∃ k, m = ol - k ∧ k ≤ ol ∧ Has σ [(1, .pointer (some ⟨g1, 0, none⟩)), (2, .pointer (some ⟨g2, 0, none⟩)), (3, .slice (some ⟨gO, kO, none⟩) ol cO), (33, .slice (some ⟨gO, kO, none⟩) ol cO), (34, .int .i64 ol), (35, .int .i64 k)] ∧ blk gP (.cells (rngV n fun x => .int .i64 (plTo f.terms k x)) 3) :: LR = L) (n := ol) ⟨0, rfl, Nat.zero_le _, ⟨rfl, rfl, rfl, rfl, rfl, rfl, trivial⟩, by rw [hLR]; rfl⟩ ?_
  rintro _ σ L ⟨k, rfl, hk, hs, rfl⟩
  refine Cd.has hs ?_
  refine Cd.seq ?_
  refine Cd.region ?_
  refine Ol.p lsi ?_
  refine Ol.nil ?_
  refine Cd.seq ?_
  refine Cd.cond rfl (fun h => ?_) (fun h => ?_)   -- $36
  · have hlt : k < ol := by simpa using h
    obtain ⟨b, hb⟩ : ∃ b, (orderF f.terms)[k]? = some b := ⟨_, List.getElem?_eq_getElem (by omega)⟩
    have hbn := holt b (List.mem_of_getElem? hb)
    refine Cd.skip ?_
    refine Cd.seq ?_
    refine Cd.block ?_   -- 1
    subst hLR
    refine Cd.seq ?_
    refine Cd.region ?_
    refine Ol.p mvi ?_
    refine Ol.p (ixo (ix := k) sl_L_int) ?_
    refine Ol.p (ld (v := .int .i64 (b : Int)) one_int (Rd.blk (k := kO + k * 1) (i := 2) rfl (by rw [Nat.mul_one]; exact hOget k b hb))) ?_
    refine Ol.p asi ?_
    refine Ol.p asi ?_
    refine Ol.nil ?_
    refine Cd.region ?_
    refine Ol.p (fdl fd_dom_tree_1) ?_
    refine Ol.p (ld one_L_int (Rd.blk (i := 3) rfl rfl)) ?_
    refine Ol.p mvi ?_
    refine Ol.p mvi ?_
    refine Ol.p (ixo1 (ix := b) sl_L_int) ?_
    refine Ol.s (sto (i := 0) (k := b) (.inr sz_int) rfl rfl rfl (by rw [rngV_size]; exact hbn) rfl) ?_
    refine Ol.nil ?_
    refine Cd.region ?_
    refine Ol.p addi ?_
    refine Ol.p mvi ?_
    refine Ol.nil ?_
    refine ⟨ol - (k + 1), by omega, k + 1, rfl, by omega, ⟨rfl, rfl, rfl, rfl, rfl, rfl, trivial⟩, ?_⟩
    have : (rngV n fun x => Value.int .i64 (plTo f.terms k x)).setIfInBounds b (.int .i64 (k : Int)) = rngV n fun x => .int .i64 (plTo f.terms (k + 1) x) := by
      rw [rngV_set]
      refine rngV_congr fun x _ => ?_
      rw [plTo_succ hcl hb]
      by_cases e : x = b <;> simp [e]
    rw [← this]
    rfl
  have hke : ol = k := by
    have : ¬ (k : Int) < ol := by simpa using h
    omega
  subst hke
  have ePl : (rngV n fun x => Value.int .i64 (plTo f.terms ol x)) = (ints (plL f.terms)).toArray := by
    rw [hol, hn]
    simp [rngV, plL, ints, Function.comp_def]
  rw [ePl]
  clear hk hs h eP
  subst hLR
  refine Cd.exit (id := 0) ?_
  refine Cd.seq ?_
  refine Cd.region ?_
  refine Ol.p (fdl fd_api_Func_1) ?_
  refine Ol.p (ld one_L_api_Block (Rd.blk (i := 4) rfl rfl)) ?_
  refine Ol.p (lens sl_L_api_Block) ?_
  refine Ol.x (mks (n := f.blocks.length) (c := f.blocks.length) sl_L_L_int zr_L_int) ?_
  rintro _ _ ⟨gI, rfl, rfl⟩
  refine Ol.unrow fun csI hcsI hcsI2 => ?_
  have eI : csI = rngV n (headV (fun _ => (none, 0)) (preTo f.terms 0)) := by
    have h1 : csI.toList = (madeCells (Value.slice none 0 0).cells (f.blocks.length * 1)).toList.take (f.blocks.length * 1) := by
      rw [← hcsI2]; exact (List.take_of_length_le (by simp [hcsI])).symm
    have h2 : (madeCells (Value.slice none 0 0).cells (f.blocks.length * 1)).toList.take (f.blocks.length * 1) = List.replicate n (.slice none 0 0) := by
      rw [hnb, Nat.mul_one]
      apply List.ext_getElem?
      intro i
      by_cases hi : i < n
      · have e0 : (Value.slice none 0 0).cells = #[.slice none 0 0] := rfl
        simp [madeCells, hi, e0]
        rw [Nat.mod_one]; rfl
      · simp [madeCells, hi]
    apply Array.ext'
    have h3 : headV (fun _ => (none, 0)) (preTo f.terms 0) = fun _ => Value.slice none 0 0 := by funext x; unfold headV; rw [preTo_zero]; rfl
    rw [h1, h2, h3, ← rngV_rep]
    simp
  subst eI
  refine Ol.p ass ?_
  refine Ol.nil ?_
  refine Cd.seq ?_
  refine Cd.seq ?_
  refine Cd.region ?_
  refine Ol.p (ldw ag_api_Func (i := 5) rfl rfl) ?_
  refine Ol.x (sp_call en_flow_Edges (fun M' w' hh => flow_Edges_ct (hf.now hh) hfit)) ?_
  rintro _ _ ⟨_, rfl, A51, c51, rfl, rfl⟩
  refine Ol.p (lens sl_L_api_Edge) ?_
  refine Ol.p mvi ?_
  refine Ol.nil ?_
  have hse : (someE f.terms fun _ => true) = edges f.terms := by unfold someE; rw [hcl, cond_true]; simp
  rw [hse]
  obtain ⟨E, hE⟩ : ∃ E, E = edges f.terms := ⟨_, rfl⟩
  rw [← hE]
  have hEl : E.length ≤ 400 := by rw [hE, ← hse]; exact someE_len_le _ _
  refine Cd.block ?_   -- 2
  refine Cd.nrs n 3 ?_
  have hn0' : (fun x => ([] : List Int)) = preTo f.terms 0 := by funext x; rw [preTo_zero]
  rw [hn0']
  refine Cd.loop (fun m σ L => ∃ (k : Nat) (H : Heads), m = E.length - k ∧ k ≤ E.length ∧ Has σ [(2, .pointer (some ⟨g2, 0, none⟩)), (3, .slice (some ⟨gO, kO, none⟩) ol cO), (6, .slice (some ⟨gI, 0, none⟩) f.blocks.length f.blocks.length), (51, .slice A51 E.length c51), (52, .int .i64 E.length), (53, .int .i64 k)] ∧
      row (.slice A51 E.length c51) 32 3 E.length (edV E) :: madeR f n gI gP gU gO g2 g1 csO (Array.replicate n (.int .i64 (-1))) H (preTo f.terms k) = L) (n := E.length) ⟨0, _, rfl, Nat.zero_le _, ⟨rfl, rfl, rfl, rfl, rfl, rfl, trivial⟩, rfl⟩ ?_
  rintro _ σ L ⟨k, H, rfl, hk, hs, rfl⟩
  refine Cd.has hs ?_
  refine Cd.seq ?_
  refine Cd.region ?_
  refine Ol.p lsi ?_
  refine Ol.nil ?_
  refine Cd.seq ?_
  refine Cd.cond rfl (fun h => ?_) (fun h => ?_)   -- $54
  · have hlt : k < E.length := by simpa using h
    obtain ⟨e, he⟩ : ∃ e, E[k]? = some e := ⟨_, List.getElem?_eq_getElem hlt⟩
    have heE : (edges f.terms)[k]? = some e := by rw [← hE]; exact he
    have hem : e ∈ edges f.terms := List.mem_of_getElem? heE
    obtain ⟨_, _, hcle⟩ := closed_len hcl
    have hto := hcle e hem
    obtain ⟨b, hb⟩ : ∃ b : Nat, e.to = (b : Int) := ⟨e.to.toNat, by omega⟩
    have hbn : b < n := by omega
    have hplen := preTo_len f.terms k b
    unfold madeR
    refine Cd.skip ?_
    refine Cd.seq ?_
    refine Cd.block ?_   -- 3
    refine Cd.seq ?_
    refine Cd.region ?_
    refine Ol.p (ixn (ix := k) sl_L_api_Edge (Som.row (i := 0) rfl (by omega))) ?_
    refine Ol.p (ldr ag_api_Edge (i := 0) rfl e.len (fun j u hu => edV_get he hu)) ?_
    refine Ol.x (alc zr_api_Edge) ?_
    rintro _ _ ⟨g8, rfl, rfl⟩
    refine Ol.s (stw sz_api_Edge rfl e.one (i := 0) rfl rfl) ?_
    refine Ol.nil ?_
    refine Cd.drawT (L0 := (blk g8 (.cells e.cells.toArray 32) :: row (.slice A51 E.length c51) 32 3 E.length (edV E) :: blk gI (.cells (rngV n (headV H (preTo f.terms k))) 22) :: blk gP (.cells (ints (plL f.terms)).toArray 3) :: blk gU (.cells (Array.replicate n (.int .i64 (-1))) 3) :: blk gO (.cells csO 3) :: blk g2 (.cells #[.slice (some ⟨gU, 0, none⟩) n n, .slice (some ⟨gP, 0, none⟩) n n] 57) :: blk g1 (.cells f.cells.toArray 25) :: restP n 3 b H (preTo f.terms k))) mixed 13 (fun opNo => match opNo with | 10 => some (NewSv 3 1 1 1 [.int .i64 e.src]) | 11 => some (NewL 3 1 ((preTo f.terms k b).length + 1) (ints (preTo f.terms k b) ++ [Value.int .i64 e.src])) | 1000 => some ((fun v R => v = undef ∧ R = [row (.slice (H b).1 (preTo f.terms k b).length (H b).2) 3 1 (preTo f.terms k b).length (ints (preTo f.terms k b))])) | _ => none) (fun opNo => match opNo with | 11 => [1000, 10] | _ => []) (fun opNo => match opNo with | 11 => some 1000 | _ => none) [1000] (fun tokNo => match tokNo with | 1000 => [row (.slice (H b).1 (preTo f.terms k b).length (H b).2) 3 1 (preTo f.terms k b).length (ints (preTo f.terms k b))] | _ => []) (by kernel_rfl) ((List.Perm.append_left [_, _, _, _, _, _, _, _] (rowsP_perm hbn)).trans List.perm_middle) (by intro c hc; simp only [List.mem_cons, List.not_mem_nil, or_false] at hc; rcases hc with rfl <;> rfl) (by intro q V h; split at h <;> cases h; exact ⟨_, _, 0, rfl, rfl⟩; exact ⟨_, _, none, 0, rfl, rfl⟩; exact ⟨_, _, rfl, rfl⟩) (fun u hu hu0 => ?_)
    refine WkT.p mvs ?_
    refine WkT.p (fdl fd_api_Edge_2) ?_
    refine WkT.p (ld one_int (Rd.blk (i := 0) rfl rfl)) ?_
    refine WkT.p mvs ?_
    refine WkT.p (fdl fd_api_Edge_2) ?_
    refine WkT.p (ld one_int (Rd.blk (i := 0) rfl rfl)) ?_
    refine WkT.p (ixo1 (ix := b) sl_L_L_int (hy := congrArg (Value.int .i64) hb)) ?_
    refine WkT.p (ld (v := .slice (H b).1 (preTo f.terms k b).length (H b).2) one_L_int (Rd.blk (i := 2) rfl (rngV_get hbn))) ?_
    refine WkT.p (fdl fd_api_Edge_0) ?_
    refine WkT.p (ld one_int (Rd.blk (i := 0) rfl rfl)) ?_
    refine WkT.xn (V := NewSv 3 1 1 1 [.int .i64 e.src]) (l := []) (l2 := []) hu rfl rfl rfl (by rw [needs_none]; exact (NewS.adds (bsv [.int .i64 e.src] sl_L_int zr_int (by simp [Value.cells])))) ?_
    rintro _ _ hu10 ⟨g67, rfl, rfl⟩
    refine WkT.xn (V := NewL 3 1 ((preTo f.terms k b).length + 1) (ints (preTo f.terms k b) ++ [Value.int .i64 e.src])) (l := [1000, 10]) (l2 := [10]) hu rfl rfl rfl (by rw [needs_cons (hu0 1000 (by simp)), needs_cons hu10, needs_none]; exact (Grow.adds (apn (i := 0) (m := 1) sl_L_int zr_int rfl (by decide) rfl (Src.row (i := 1) rfl rfl) (by intro u hu; simp at hu; subst hu; rfl) (by unfold maxLen; omega) (by omega)))) ?_
    rintro _ _ hu11 ⟨A68, c68, rfl, rfl⟩
    refine WkT.p (ixo1 (ix := b) sl_L_L_int (hy := congrArg (Value.int .i64) hb)) ?_
    refine WkT.nil ?_
    change Ol _ _ _ _ _ (needs u [11, 10] _)
    rw [needs_cons hu11, needs_cons hu10, needs_none]
    refine Ol.s (sto (i := 4) (k := b) (.inr sz_L_int) rfl rfl rfl (by rw [rngV_size]; exact hbn) rfl) ?_
    refine Ol.keep (.sub (.cons_cons _ (.cons _ (.cons _ (List.Sublist.refl _))))) ?_
    refine Ol.nil ?_
    have hp1 : preTo f.terms (k + 1) b = preTo f.terms k b ++ [e.src] := by rw [preTo_succ heE, if_pos hb]
    have hp2 : ∀ x, x ≠ b → preTo f.terms k x = preTo f.terms (k + 1) x := fun x hx => by rw [preTo_succ heE, if_neg (by rw [hb]; omega)]
    have hp3 : (preTo f.terms k b).length + 1 = (preTo f.terms (k + 1) b).length := by rw [hp1]; simp
    have hp4 : ints (preTo f.terms k b) ++ [Value.int .i64 e.src] = ints (preTo f.terms (k + 1) b) := by rw [hp1]; simp [ints]
    rw [hp3, hp4]
    refine Cd.keep (L' := row (.slice A51 E.length c51) 32 3 E.length (edV E) :: madeR f n gI gP gU gO g2 g1 csO (Array.replicate n (.int .i64 (-1))) (fun x => if x = b then (A68, c68) else H x) (preTo f.terms (k + 1))) ⟨[], ?_⟩ ?_
    · rw [List.append_nil]
      unfold madeR
      rw [← headV_set hp2]
      exact (List.perm_middle (l₁ := [_, _, _, _, _, _, _])).symm.trans (List.Perm.append_left [_, _, _, _, _, _, _] (rowsP_set hbn hp2).symm)
    refine Cd.region ?_
    refine Ol.p addi ?_
    refine Ol.p mvi ?_
    refine Ol.nil ?_
    exact ⟨E.length - (k + 1), by omega, k + 1, _, rfl, by omega, ⟨rfl, rfl, rfl, rfl, rfl, rfl, trivial⟩, rfl⟩
  have hke : E.length = k := by
    have : ¬ (k : Int) < E.length := by simpa using h
    omega
  subst hke
  clear hk hs h
  have hxs : preTo f.terms E.length = preI f.terms := by funext x; rw [hE]; exact preTo_all _ _
  rw [hxs, ← ints_rep]
  refine Cd.exit (id := 2) ?_
  refine Cd.keep (.sub (.cons _ (List.Sublist.refl _))) ?_
  refine Cd.seq ?_
  refine Cd.seq ?_
  refine Cd.region ?_
  refine Ol.p asb ?_
  refine Ol.nil ?_
  obtain ⟨mu, hmu⟩ : ∃ mu : List Int → Nat, mu = muU ((orderF f.terms).idxOf ·) (orderF f.terms).length := ⟨_, rfl⟩
  have hps0 : Ps (gra f.terms hcl) (preF f.terms) (asU (List.replicate n (-1))) 1 := by rw [asU_rep]; exact Ps.start (gra_pos hcl)
  refine Cd.block ?_   -- 4
  refine Cd.loop (fun m σ L => ∃ (ul : List Int) (mv : Bool), m = 2 * mu ul + mv.toNat ∧ ul.length = n ∧ Ps (gra f.terms hcl) (preF f.terms) (asU ul) 1 ∧ (mv = false → FixU f.terms ul ∧ Ps (gra f.terms hcl) (preF f.terms) (asU ul) ol) ∧ Has σ [(2, .pointer (some ⟨g2, 0, none⟩)), (3, .slice (some ⟨gO, kO, none⟩) ol cO), (6, .slice (some ⟨gI, 0, none⟩) f.blocks.length f.blocks.length), (9, .bool mv)] ∧ madeR f n gI gP gU gO g2 g1 csO (ints ul).toArray H (preI f.terms) = L) (n := 2 * mu (List.replicate n (-1)) + 1) ⟨_, true, rfl, by simp, hps0, fun h => (by cases h), ⟨rfl, rfl, rfl, rfl, trivial⟩, rfl⟩ ?_
  rintro _ σ L ⟨ul0, mv, rfl, hul0, hps1, hfix0, hs, rfl⟩
  refine Cd.has hs ?_
  refine Cd.seq ?_
  refine Cd.seq ?_
  refine Cd.region ?_
  refine Ol.p mvb ?_
  refine Ol.nil ?_
  refine Cd.cond rfl (fun h => ?_) (fun h => ?_)   -- $71
  · subst h
    refine Cd.skip ?_
    refine Cd.block ?_   -- 5
    refine Cd.seq ?_
    refine Cd.region ?_
    refine Ol.p asb ?_
    refine Ol.nil ?_
    refine Cd.seq ?_
    refine Cd.region ?_
    refine Ol.p mvs ?_
    refine Ol.p (sll (l := 1) sl_L_int (by omega)) ?_
    refine Ol.p (lens sl_L_int) ?_
    refine Ol.p mvi ?_
    refine Ol.nil ?_
    generalize hA73 : (if cO = 1 then some (⟨gO, kO, none⟩ : Addr) else (some (⟨gO, kO, none⟩ : Addr)).map (·.add (1 * 1))) = A73
    refine Cd.block ?_   -- 6
    refine Cd.loop (fun m σ L => ∃ (k : Nat) (ul : List Int) (mv : Bool), m = (ol - 1) - k ∧ k ≤ ol - 1 ∧ ul.length = n ∧ Ps (gra f.terms hcl) (preF f.terms) (asU ul) (k + 1) ∧ (mv = false → ul = ul0 ∧ ∀ b ∈ orderF f.terms, b ≠ 0 → (orderF f.terms).idxOf b < k + 1 → Eva (asU ul) (preF f.terms b) (asU ul b)) ∧ (mv = true → mu ul < mu ul0) ∧
        Has σ [(2, .pointer (some ⟨g2, 0, none⟩)), (3, .slice (some ⟨gO, kO, none⟩) ol cO), (6, .slice (some ⟨gI, 0, none⟩) f.blocks.length f.blocks.length), (9, .bool mv), (73, .slice A73 (ol - 1) (cO - 1)), (74, .int .i64 ((ol - 1 : Nat) : Int)), (75, .int .i64 k)] ∧ madeR f n gI gP gU gO g2 g1 csO (ints ul).toArray H (preI f.terms) = L) (n := ol - 1)
      ⟨0, ul0, false, rfl, Nat.zero_le _, hul0, hps1, fun _ => ⟨rfl, fun b hb hb0 hi => ?_⟩, fun h => by (cases h), ⟨rfl, rfl, rfl, rfl, rfl, rfl, rfl, trivial⟩, rfl⟩ ?_
    · exfalso
      have h1 : (orderF f.terms).idxOf b = 0 := by omega
      exact hb0 ((gra f.terms hcl).inj b 0 hb (order_zero hcl) (by rw [(gra f.terms hcl).pl0]; exact h1))
    rintro _ σ L ⟨k, ul, mv, rfl, hk, hul, hps, hfx, hlow, hs, rfl⟩
    refine Cd.has hs ?_
    refine Cd.seq ?_
    refine Cd.region ?_
    refine Ol.p lsi ?_
    refine Ol.nil ?_
    refine Cd.seq ?_
    refine Cd.cond rfl (fun h => ?_) (fun h => ?_)   -- $76
    · have hlt : k < ol - 1 := by simpa using h
      have hA : A73 = some ⟨gO, kO + 1, none⟩ := by
        rw [← hA73, if_neg (by omega)]
        simp [add_lit_]
      obtain ⟨b, hb⟩ : ∃ b, (orderF f.terms)[k + 1]? = some b := ⟨_, List.getElem?_eq_getElem (by omega)⟩
      have hbm : b ∈ orderF f.terms := List.mem_of_getElem? hb
      have hbn := holt b hbm
      have hbi : (orderF f.terms).idxOf b = k + 1 := by
        have h1 := List.getElem_idxOf (List.idxOf_lt_length_of_mem hbm)
        have h3 : (orderF f.terms)[(orderF f.terms).idxOf b]? = (orderF f.terms)[k + 1]? := by
          rw [hb, List.getElem?_eq_getElem (List.idxOf_lt_length_of_mem hbm), h1]
        exact (List.getElem?_inj (List.idxOf_lt_length_of_mem hbm) (order_nodup hcl)).1 h3
      have hb0 : b ≠ 0 := fun e => by
        subst e
        have := (gra f.terms hcl).pl0
        have h2 : (orderF f.terms).idxOf 0 = 0 := this
        omega
      have hpar := (gra f.terms hcl).par b hbm hb0
      have hubv := ints_get' (asU_get (ul := ul) (b := b) (by omega))
      have hmeet : ∀ (M : List Res) (w' : World), Hp w w.heap.size (M ++ madeR f n gI gP gU gO g2 g1 csO (ints ul).toArray H (preI f.terms)) w' → ∀ q a : Nat, Pr (asU ul) q → Pr (asU ul) a →
          Ct Try.prog 23 #[treeV (some ⟨gU, 0, none⟩) (some ⟨gP, 0, none⟩) n n n n, .int .i64 (q : Int), .int .i64 (a : Int)] w' (fun v R => ∃ m : Nat, v = .int .i64 (m : Int) ∧ Meet (asU ul) q a m ∧ R = []) := fun M w' hh q a hq ha => by
        have := dom_meet_ct (w := w') (AU := some ⟨gU, 0, none⟩) (AP := some ⟨gP, 0, none⟩) (cU := n) (cP := n) (ul := ul) (pl := plL f.terms) (G := gra f.terms hcl) (Reads.blk hh (i := 2) rfl (by simp [ints]) (fun j u hu => by simpa using hu)) (Reads.blk hh (i := 1) rfl (by simp [ints]) (fun j u hu => by simpa using hu)) hps.tr
          (fun x hx => by rw [plL_get (by rw [← hn]; exact holt x hx), if_pos (show x ∈ orderF f.terms from hx)]; rfl) (fun x hx => ⟨by rw [hul]; exact holt x hx, by rw [plL_len, ← hn]; exact holt x hx⟩) hq ha
        rw [hul, plL_len, ← hn] at this
        exact this
      refine Cd.skip ?_
      refine Cd.mid (fun σ' L' => ∃ (ul' : List Int) (mv' : Bool), ul'.length = n ∧ Ps (gra f.terms hcl) (preF f.terms) (asU ul') (k + 2) ∧ (mv' = false → ul' = ul0 ∧ ∀ b ∈ orderF f.terms, b ≠ 0 → (orderF f.terms).idxOf b < k + 2 → Eva (asU ul') (preF f.terms b) (asU ul' b)) ∧ (mv' = true → mu ul' < mu ul0) ∧
          Has σ' [(2, .pointer (some ⟨g2, 0, none⟩)), (3, .slice (some ⟨gO, kO, none⟩) ol cO), (6, .slice (some ⟨gI, 0, none⟩) f.blocks.length f.blocks.length), (9, .bool mv'), (73, .slice A73 (ol - 1) (cO - 1)), (74, .int .i64 ((ol - 1 : Nat) : Int)), (75, .int .i64 k)] ∧ madeR f n gI gP gU gO g2 g1 csO (ints ul').toArray H (preI f.terms) = L') ?_ ?_
      · subst hA
        refine Cd.block ?_   -- 7
        refine Cd.seq ?_
        unfold madeR
        refine Cd.region ?_
        refine Ol.p (ixo (ix := k) sl_L_int) ?_
        refine Ol.p (ld (v := .int .i64 (b : Int)) one_int (Rd.blk (k := kO + 1 + k * 1) (i := 3) rfl (by rw [Nat.mul_one, show kO + 1 + k = kO + (k + 1) by omega]; exact hOget (k + 1) b hb))) ?_
        refine Ol.p asi ?_
        refine Ol.nil ?_
        refine Cd.seq ?_
        refine Cd.region ?_
        refine Ol.p asi ?_
        refine Ol.nil ?_
        refine Cd.seq ?_
        refine Cd.seq ?_
        refine Cd.region ?_
        refine Ol.p mvs ?_
        refine Ol.p mvi ?_
        refine Ol.p (ixo1 (ix := b) sl_L_L_int) ?_
        refine Ol.p (ld (v := .slice (H b).1 (preI f.terms b).length (H b).2) one_L_int (Rd.blk (i := 0) rfl (rngV_get hbn))) ?_
        refine Ol.p (lens sl_L_int) ?_
        refine Ol.p mvi ?_
        refine Ol.nil ?_
        have hpl : (preI f.terms b).length = (preF f.terms b).length := by simp [preI]
        have hpl4 : (preI f.terms b).length ≤ 400 := by
          simp only [preI, preF, List.length_map]
          exact Nat.le_trans (List.length_filter_le _ _) (by rw [← hE]; exact hEl)
        refine Cd.block ?_   -- 8
        refine Cd.loop (fun m σ L => ∃ (j : Nat) (r : Int), m = (preI f.terms b).length - j ∧ j ≤ (preI f.terms b).length ∧ Eva (asU ul) ((preF f.terms b).take j) r ∧ Has σ [(2, .pointer (some ⟨g2, 0, none⟩)), (3, .slice (some ⟨gO, kO, none⟩) ol cO), (6, .slice (some ⟨gI, 0, none⟩) f.blocks.length f.blocks.length), (9, .bool mv), (11, .int .i64 b), (12, .int .i64 r), (73, .slice (some ⟨gO, kO + 1, none⟩) (ol - 1) (cO - 1)), (74, .int .i64 ((ol - 1 : Nat) : Int)), (75, .int .i64 k), (82, .slice (H b).1 (preI f.terms b).length (H b).2), (83, .int .i64 (preI f.terms b).length), (84, .int .i64 j)] ∧ madeR f n gI gP gU gO g2 g1 csO (ints ul).toArray H (preI f.terms) = L) (n := (preI f.terms b).length) ⟨0, -1, rfl, Nat.zero_le _, Eva.nil, ⟨rfl, rfl, rfl, rfl, rfl, rfl, rfl, rfl, rfl, rfl, rfl, rfl, trivial⟩, rfl⟩ ?_
        clear hs
        rintro _ σ L ⟨j, r, rfl, hj, hev, hs, rfl⟩
        refine Cd.has hs ?_
        refine Cd.seq ?_
        refine Cd.region ?_
        refine Ol.p lsi ?_
        refine Ol.nil ?_
        refine Cd.seq ?_
        refine Cd.cond rfl (fun h2 => ?_) (fun h2 => ?_)   -- $85
        · have hjl : j < (preI f.terms b).length := by simpa using h2
          obtain ⟨a, ha⟩ : ∃ a, (preF f.terms b)[j]? = some a := ⟨_, List.getElem?_eq_getElem (by omega)⟩
          have hav : (ints (preI f.terms b))[j]? = some (.int .i64 (a : Int)) := ints_get' (by simp [preI, ha])
          have haE := mem_preF.1 (List.mem_of_getElem? ha)
          have han : a < n := by have := (toAt_lt hcl haE).2.2; omega
          have huav := ints_get' (asU_get (ul := ul) (b := a) (by omega))
          have htake := take_snoc_ ha
          refine Cd.skip ?_
          refine Cd.mid (fun σ' L' => ∃ r' : Int, Eva (asU ul) ((preF f.terms b).take (j + 1)) r' ∧ Has σ' [(2, .pointer (some ⟨g2, 0, none⟩)), (3, .slice (some ⟨gO, kO, none⟩) ol cO), (6, .slice (some ⟨gI, 0, none⟩) f.blocks.length f.blocks.length), (9, .bool mv), (11, .int .i64 b), (12, .int .i64 r'), (73, .slice (some ⟨gO, kO + 1, none⟩) (ol - 1) (cO - 1)), (74, .int .i64 ((ol - 1 : Nat) : Int)), (75, .int .i64 k), (82, .slice (H b).1 (preI f.terms b).length (H b).2), (83, .int .i64 (preI f.terms b).length), (84, .int .i64 j)] ∧ madeR f n gI gP gU gO g2 g1 csO (ints ul).toArray H (preI f.terms) = L') ?_ ?_
          · rw [htake]
            refine Cd.block ?_   -- 9
            refine Cd.seq ?_
            unfold madeR
            refine Cd.region ?_
            refine Ol.p (ixn1 (ix := j) sl_L_int (Som.row (i := b + 6) (rowsP_get hbn) (by omega))) ?_
            refine Ol.p (ld one_int (Rd.row (i := b + 6) (rowsP_get hbn) hav)) ?_
            refine Ol.p asi ?_
            refine Ol.nil ?_
            refine Cd.block ?_   -- 10
            refine Cd.mid (fun σ' L' => Has σ' [(2, .pointer (some ⟨g2, 0, none⟩)), (3, .slice (some ⟨gO, kO, none⟩) ol cO), (6, .slice (some ⟨gI, 0, none⟩) f.blocks.length f.blocks.length), (9, .bool mv), (11, .int .i64 b), (12, .int .i64 r), (14, .int .i64 a), (73, .slice (some ⟨gO, kO + 1, none⟩) (ol - 1) (cO - 1)), (74, .int .i64 ((ol - 1 : Nat) : Int)), (75, .int .i64 k), (82, .slice (H b).1 (preI f.terms b).length (H b).2), (83, .int .i64 (preI f.terms b).length), (84, .int .i64 j), (92, .bool (!decide (a = 0) && decide (asU ul a < 0)))] ∧ madeR f n gI gP gU gO g2 g1 csO (ints ul).toArray H (preI f.terms) = L') ?_ ?_
            · cases h0 : decide ((a : Int) = 0) with
              | true =>
                have ha0 : a = 0 := by simp at h0; omega
                have hg2 : (!decide ((a : Int) = 0)) = false := by rw [h0]; rfl
                refine Cd.region ?_
                refine Ol.p mvi ?_
                refine Ol.p nei ?_
                refine Ol.p mvb ?_
                refine Ol.gn hg2 ?_
                refine Ol.gn hg2 ?_
                refine Ol.gn hg2 ?_
                refine Ol.gn hg2 ?_
                refine Ol.gn hg2 ?_
                refine Ol.gn hg2 ?_
                refine Ol.p (pkFb hg2) ?_
                refine Ol.p asb ?_
                refine Ol.nil ?_
                refine ⟨⟨rfl, rfl, rfl, rfl, rfl, rfl, rfl, rfl, rfl, rfl, rfl, rfl, rfl, ?_, trivial⟩, rfl⟩
                subst ha0; rfl
              | false =>
                have ha0 : a ≠ 0 := by simp at h0; omega
                have hg2 : (!decide ((a : Int) = 0)) = true := by rw [h0]; rfl
                refine Cd.region ?_
                refine Ol.p mvi ?_
                refine Ol.p nei ?_
                refine Ol.p mvb ?_
                refine Ol.gp hg2 (fdl fd_dom_tree_0) ?_
                refine Ol.gp hg2 (ld one_L_int (Rd.blk (i := 4) rfl rfl)) ?_
                refine Ol.gp hg2 mvi ?_
                refine Ol.gp hg2 (ixo1 (ix := a) sl_L_int) ?_
                refine Ol.gp hg2 (ld one_int (Rd.blk (i := 2) rfl (by simpa using huav))) ?_
                refine Ol.gp hg2 lsi ?_
                refine Ol.p (pkTb hg2) ?_
                refine Ol.p asb ?_
                refine Ol.nil ?_
                refine ⟨⟨rfl, rfl, rfl, rfl, rfl, rfl, rfl, rfl, rfl, rfl, rfl, rfl, rfl, ?_, trivial⟩, rfl⟩
                simp [ha0, updO, upd]
            rintro σ' _ ⟨hs', rfl⟩
            refine Cd.has hs' ?_
            refine Cd.cond rfl (fun h3 => ?_) (fun h3 => ?_)   -- $92
            · have hnp : ¬ Pr (asU ul) a := by
                simp only [Bool.and_eq_true, Bool.not_eq_true', decide_eq_false_iff_not, decide_eq_true_eq] at h3
                rintro (e | e)
                · exact h3.1 e
                · omega
              refine Cd.skip ?_
              exact ⟨r, hev.skip hnp, ⟨rfl, rfl, rfl, rfl, rfl, rfl, rfl, rfl, rfl, rfl, rfl, rfl, trivial⟩, rfl⟩
            have hpa : Pr (asU ul) a := by
              by_cases e : a = 0
              · exact .inl e
              · right
                simp [e] at h3
                omega
            refine Cd.seq ?_
            refine Cd.region ?_
            refine Ol.p mvi ?_
            refine Ol.p lsi ?_
            refine Ol.p asb ?_
            refine Ol.nil ?_
            refine Cd.cond rfl (fun h4 => ?_) (fun h4 => ?_)   -- $103
            · have hr1 : r = -1 := by
                simp only [decide_eq_true_eq] at h4
                rcases hev with ⟨e, _⟩ | ⟨m, e, _⟩
                · exact e
                · omega
              subst hr1
              refine Cd.region ?_
              refine Ol.p mvi ?_
              refine Ol.p asi ?_
              refine Ol.nil ?_
              exact ⟨(a : Int), hev.first hpa, ⟨rfl, rfl, rfl, rfl, rfl, rfl, rfl, rfl, rfl, rfl, rfl, rfl, trivial⟩, rfl⟩
            obtain ⟨q, hq⟩ : ∃ q : Nat, r = (q : Int) := by
              simp only [decide_eq_false_iff_not] at h4
              exact ⟨r.toNat, by omega⟩
            subst hq
            have hpq : Pr (asU ul) q := by
              rcases hev with ⟨e, _⟩ | ⟨m, e, hm, _⟩
              · omega
              · have : m = q := by omega
                subst this; exact hm
            refine Cd.region ?_
            refine Ol.p (ldw ag_dom_tree (i := 4) rfl rfl) ?_
            refine Ol.p mvi ?_
            refine Ol.p mvi ?_
            refine Ol.x (sp_call en_dom_tree_meet (fun M w' hh => hmeet M w' hh q a hpq hpa)) ?_
            rintro _ _ ⟨_, rfl, m, rfl, hm, rfl⟩
            refine Ol.p asi ?_
            refine Ol.nil ?_
            exact ⟨(m : Int), hev.meet hps.tr hpa hm, ⟨rfl, rfl, rfl, rfl, rfl, rfl, rfl, rfl, rfl, rfl, rfl, rfl, trivial⟩, rfl⟩
          rintro σ' _ ⟨r', hev', hs', rfl⟩
          refine Cd.has hs' ?_
          refine Cd.region ?_
          refine Ol.p addi ?_
          refine Ol.p mvi ?_
          refine Ol.nil ?_
          exact ⟨(preI f.terms b).length - (j + 1), by omega, j + 1, r', rfl, by omega, hev', ⟨rfl, rfl, rfl, rfl, rfl, rfl, rfl, rfl, rfl, rfl, rfl, rfl, trivial⟩, rfl⟩
        have hje : (preF f.terms b).take j = preF f.terms b := by
          have : ¬ (j : Int) < (preI f.terms b).length := by simpa using h2
          exact List.take_of_length_le (by omega)
        rw [hje] at hev
        refine Cd.exit (id := 8) ?_
        refine Cd.seq ?_
        unfold madeR
        refine Cd.region ?_
        refine Ol.p mvi ?_
        refine Ol.p (fdl fd_dom_tree_0) ?_
        refine Ol.p (ld one_L_int (Rd.blk (i := 4) rfl rfl)) ?_
        refine Ol.p mvi ?_
        refine Ol.p (ixo1 (ix := b) sl_L_int) ?_
        refine Ol.p (ld one_int (Rd.blk (i := 2) rfl (by simpa using hubv))) ?_
        refine Ol.p nei ?_
        refine Ol.nil ?_
        refine Cd.cond rfl (fun h3 => ?_) (fun h3 => ?_)   -- $114
        · have hne : r ≠ asU ul b := by simpa using h3
          obtain ⟨m, hm⟩ : ∃ m : Nat, r = (m : Int) := by
            rcases hev with ⟨_, e2⟩ | ⟨m, e, _⟩
            · exact absurd (hps.j5 _ hpar.1 (by have := hpar.2.2; have h5 : (gra f.terms hcl).pl b = k + 1 := hbi; omega)) (e2 _ (mem_preF.2 hpar.2.1))
            · exact ⟨m, e⟩
          subst hm
          refine Cd.region ?_
          refine Ol.p (fdl fd_dom_tree_0) ?_
          refine Ol.p (ld one_L_int (Rd.blk (i := 4) rfl rfl)) ?_
          refine Ol.p mvi ?_
          refine Ol.p mvi ?_
          refine Ol.p (ixo1 (ix := b) sl_L_int) ?_
          refine Ol.s (sto (i := 2) (k := b) (.inr sz_int) rfl rfl rfl (by rw [ints_size]; omega) rfl) ?_
          refine Ol.p asb ?_
          refine Ol.nil ?_
          refine ⟨ul.set b (m : Int), true, by simpa using hul, ?_, fun h => (by cases h), fun _ => ?_, ⟨rfl, rfl, rfl, rfl, rfl, rfl, rfl, trivial⟩, ?_⟩
          · rw [asU_set (by omega)]
            exact hps.turn hbm hb0 hbi (fun a => mem_preF) hev
          · have h6 : mu (ul.set b (m : Int)) < mu ul := by rw [hmu]; exact hps.lower hbm hb0 hbi hev hne (by omega)
            cases mv with
            | true => have := hlow rfl; omega
            | false => rw [(hfx rfl).1] at h6; rw [(hfx rfl).1]; exact h6
          · rw [← ints_set]
            rfl
        have heq : r = asU ul b := by simpa using h3
        refine Cd.skip ?_
        refine ⟨ul, mv, hul, ?_, fun hmv => ⟨(hfx hmv).1, fun c hc hc0 hci => ?_⟩, hlow, ⟨rfl, rfl, rfl, rfl, rfl, rfl, rfl, trivial⟩, rfl⟩
        · exact hps.keep hbm hb0 hbi (mem_preF.2 hpar.2.1) (by rw [← heq]; exact hev)
        · by_cases e : (orderF f.terms).idxOf c = k + 1
          · have : c = b := (gra f.terms hcl).inj c b hc hbm (by show (orderF f.terms).idxOf c = (orderF f.terms).idxOf b; omega)
            subst this
            rw [← heq]; exact hev
          · exact (hfx hmv).2 c hc hc0 (by omega)
      rintro σ' _ ⟨ul', mv', hul', hps', hfx', hlow', hs', rfl⟩
      refine Cd.has hs' ?_
      refine Cd.region ?_
      refine Ol.p addi ?_
      refine Ol.p mvi ?_
      refine Ol.nil ?_
      exact ⟨(ol - 1) - (k + 1), by omega, k + 1, ul', mv', rfl, by omega, hul', hps', hfx', hlow', ⟨rfl, rfl, rfl, rfl, rfl, rfl, rfl, trivial⟩, rfl⟩
    have hke : k + 1 = ol := by
      have : ¬ (k : Int) < ((ol - 1 : Nat) : Int) := by simpa using h
      omega
    rw [hke] at hps
    refine Cd.exit (id := 6) ?_
    have hall : ∀ c, (gra f.terms hcl).R c → (gra f.terms hcl).pl c < ol := fun c hc => by rw [hol]; exact List.idxOf_lt_length_of_mem hc
    refine ⟨2 * mu ul + mv.toNat, ?_, ul, mv, rfl, hul, hps.again hall (gra_pos hcl), fun hmv => ⟨fun c hc hc0 => (hfx hmv).2 c hc hc0 (by have := hall c hc; show (orderF f.terms).idxOf c < k + 1; rw [hke]; exact this), hps⟩, ⟨rfl, rfl, rfl, rfl, trivial⟩, rfl⟩
    cases mv with
    | true => have := hlow rfl; simp; omega
    | false => rw [(hfx rfl).1]; simp
  subst h
  obtain ⟨hfx, hpsN⟩ := hfix0 rfl
  have hall : ∀ c, (gra f.terms hcl).R c → (gra f.terms hcl).pl c < ol := fun c hc => by rw [hol]; exact List.idxOf_lt_length_of_mem hc
  have hD : DomU f.terms ul0 := ⟨by rw [hul0, hn], fun hc => hpsN.fin hall (fun a b => mem_preF) hfx⟩
  have hD2 := domL_spec hD
  have hDe := hD.eqL hcl
  subst hDe
  refine Cd.exit (id := 4) ?_
  refine Cd.seq ?_
  unfold madeR
  refine Cd.region ?_
  refine Ol.p (ldw ag_dom_tree (i := 4) rfl rfl) ?_
  refine Ol.s (stw (vs := #[.slice (some ⟨gU, 0, none⟩) n n, .slice (some ⟨gP, 0, none⟩) n n]) sz_dom_tree rfl (by intro u hu; simp at hu; rcases hu with rfl | rfl <;> rfl) (i := 4) rfl rfl) ?_
  refine Ol.nil ?_
  subst hn
  exact Cd.ret ⟨_, retc rfl ag_dom_tree rfl (i := 4) rfl rfl, _, .sub (.cons _ (.cons_cons _ (.cons_cons _ (List.nil_sublist _)))), .inr ⟨hcl, hD2, gU, gP, rfl, rfl⟩⟩
end
end Go.Proofs.Ytbcnejobnmljlaa
