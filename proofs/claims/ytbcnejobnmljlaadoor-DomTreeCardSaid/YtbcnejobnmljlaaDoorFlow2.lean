/- The package flow: edges of blocks, the critical ones, walked. -/
import Derived.Test.YtbcnejobnmljlaaDoorFlow
namespace Go.Proofs.YtbcnejobnmljlaaDoor
set_option linter.unusedVariables false
open Go Go.RowKit
set_option maxRecDepth 100000

/-- A cell of a block of one's own, in whatever is called later. -/
theorem Hp.keeps {w0 w w2 : World} {B i g k : Nat} {M L : List Res} {cs : Array Value} {e : TypeId} {fz : Nat × Nat} {v : Value} (hh : Hp w0 B (M ++ L) w) (hi : L[i]? = some (blk g (.cells cs e fz))) (hk : cs[k]? = some v) (hb : Below w.heap.size w w2) : w2.cell? ⟨g, k, none⟩ = some v := by
  have h1 := Rd.blk hi hk M w hh
  have hlt : g < w.heap.size := World.block_lt_of_cell? w _ h1
  exact (hb.cell (p := ⟨g, k, none⟩) hlt).trans h1
theorem Hp.keepsObj {w0 w w2 : World} {B i g : Nat} {M L : List Res} {o : Obj} (hh : Hp w0 B (M ++ L) w) (hi : L[i]? = some (blk g o)) (hb : Below w.heap.size w w2) : w2.heap[g]? = some o ∧ g < w2.heap.size := by
  have h1 : w.heap[g]? = some o := hh.at_ hi
  have hlt := (Array.getElem?_eq_some_iff.1 h1).1
  exact ⟨(hb.block g hlt).trans h1, Nat.lt_of_lt_of_le hlt hb.size⟩
section
theorem flow_Into_1_ct {w : World} {e : Ed} {g : Nat} {b : Int} (hc : w.cell? ⟨g, 0, none⟩ = some (.int .i64 b)) : Ct Tryd.prog 61 #[e.val, .pointer (some ⟨g, 0, none⟩)] w (Is (.bool (decide (e.to = b)))) := by
  have hlt : g < w.heap.size := World.block_lt_of_cell? w _ hc
  refine Ct.mk Tryd.func61 rfl rfl ?_
  refine Cd.seq ?_
  refine Cd.region ?_
  refine Ol.x bxg ?_
  rintro _ _ ⟨g2, rfl, rfl⟩
  refine Ol.p asb ?_
  refine Ol.nil ?_
  refine Cd.seq ?_
  refine Cd.region ?_
  refine Ol.p (fdl fd_api_Edge_2) ?_
  refine Ol.p (ld one_int (Rd.blk (i := 0) rfl rfl)) ?_
  refine Ol.p (ld one_int (Rd.inp hlt hc)) ?_
  refine Ol.p eqi ?_
  refine Ol.p asb ?_
  refine Ol.nil ?_
  refine Cd.ret ⟨.bool _, ret1 rfl rfl, [], .nil, rfl, rfl⟩
theorem flow_Into_ct {w : World} {f : RFun} {b : Int} (hf : FunAt w w.heap.size f) (hfit : Fit f) : Ct Tryd.prog 32 #[f.val, .int .i64 b] w (NewL 47 3 (someE f.terms fun e => decide (e.to = b)).length (edV (someE f.terms fun e => decide (e.to = b)))) := by
  refine Ct.mk Tryd.func32 rfl rfl ?_
  refine Cd.seq ?_
  refine Cd.region ?_
  refine Ol.x bxg ?_
  rintro _ _ ⟨g2, rfl, rfl⟩
  refine Ol.x bxi ?_
  rintro _ _ ⟨g3, rfl, rfl⟩
  refine Ol.p ass ?_
  refine Ol.nil ?_
  refine Cd.seq ?_
  refine Cd.region ?_
  refine Ol.p (ldw ag_api_Func (i := 1) rfl rfl) ?_
  refine Ol.p mkf ?_
  refine Ol.x (sp_call en_flow_some (fun M w' hh => flow_some_ct (g := 61) (fst := #[]) (cap := #[.pointer (some ⟨g3, 0, none⟩)]) (p := fun e => decide (e.to = b)) (hf.now hh) hfit ⟨en_flow_Into_1, fun e he w2 h2 => flow_Into_1_ct (Hp.keeps hh (i := 0) rfl rfl h2)⟩)) ?_
  rintro _ _ ⟨_, rfl, A, c, rfl, rfl⟩
  refine Ol.p ass ?_
  refine Ol.nil ?_
  refine Cd.ret ⟨.slice _ _ _, ret1 rfl rfl, _, .sub (.cons_cons _ (.cons _ (.cons _ .slnil))), A, c, rfl, rfl⟩
end
section
theorem flow_From_1_ct {w : World} {e : Ed} {g : Nat} {b : Int} (hc : w.cell? ⟨g, 0, none⟩ = some (.int .i64 b)) : Ct Tryd.prog 60 #[e.val, .pointer (some ⟨g, 0, none⟩)] w (Is (.bool (decide (e.src = b)))) := by
  have hlt : g < w.heap.size := World.block_lt_of_cell? w _ hc
  refine Ct.mk Tryd.func60 rfl rfl ?_
  refine Cd.seq ?_
  refine Cd.region ?_
  refine Ol.x bxg ?_
  rintro _ _ ⟨g2, rfl, rfl⟩
  refine Ol.p asb ?_
  refine Ol.nil ?_
  refine Cd.seq ?_
  refine Cd.region ?_
  refine Ol.p (fdl fd_api_Edge_0) ?_
  refine Ol.p (ld one_int (Rd.blk (i := 0) rfl rfl)) ?_
  refine Ol.p (ld one_int (Rd.inp hlt hc)) ?_
  refine Ol.p eqi ?_
  refine Ol.p asb ?_
  refine Ol.nil ?_
  refine Cd.ret ⟨.bool _, ret1 rfl rfl, [], .nil, rfl, rfl⟩
theorem flow_From_ct {w : World} {f : RFun} {b : Int} (hf : FunAt w w.heap.size f) (hfit : Fit f) : Ct Tryd.prog 31 #[f.val, .int .i64 b] w (NewL 47 3 (someE f.terms fun e => decide (e.src = b)).length (edV (someE f.terms fun e => decide (e.src = b)))) := by
  refine Ct.mk Tryd.func31 rfl rfl ?_
  refine Cd.seq ?_
  refine Cd.region ?_
  refine Ol.x bxg ?_
  rintro _ _ ⟨g2, rfl, rfl⟩
  refine Ol.x bxi ?_
  rintro _ _ ⟨g3, rfl, rfl⟩
  refine Ol.p ass ?_
  refine Ol.nil ?_
  refine Cd.seq ?_
  refine Cd.region ?_
  refine Ol.p (ldw ag_api_Func (i := 1) rfl rfl) ?_
  refine Ol.p mkf ?_
  refine Ol.x (sp_call en_flow_some (fun M w' hh => flow_some_ct (g := 60) (fst := #[]) (cap := #[.pointer (some ⟨g3, 0, none⟩)]) (p := fun e => decide (e.src = b)) (hf.now hh) hfit ⟨en_flow_From_1, fun e he w2 h2 => flow_From_1_ct (Hp.keeps hh (i := 0) rfl rfl h2)⟩)) ?_
  rintro _ _ ⟨_, rfl, A, c, rfl, rfl⟩
  refine Ol.p ass ?_
  refine Ol.nil ?_
  refine Cd.ret ⟨.slice _ _ _, ret1 rfl rfl, _, .sub (.cons_cons _ (.cons _ (.cons _ .slnil))), A, c, rfl, rfl⟩
end

/-- How often a number stands among some. -/
def cnt (l : List Int) (n : Int) : Nat := l.count n
/-- Is an edge critical: one of more out of its block, one of more into its block? -/
def critE (ts : List Tm) (e : Ed) : Bool := decide (1 < cnt ((edges ts).map Ed.to) e.to) && decide (1 < cnt ((edges ts).map Ed.src) e.src)
/-- A map that counts. -/
def Cnts (es : List MapEntry) (l : List Int) : Prop := AllI es ∧ ∀ n, (mget es n).getD (.int .i64 0) = .int .i64 (cnt l n : Int)
theorem Cnts.nil : Cnts [] [] := ⟨fun e h => (by cases h), fun n => by simp [mget, cnt]⟩
theorem Cnts.snoc {es es' : List MapEntry} {l : List Int} {k : Int} (h : Cnts es l) (ha : AllI es') (hm : ∀ m, mget es' m = if m = k then some (.int .i64 ((cnt l k : Int) + 1)) else mget es m) : Cnts es' (l ++ [k]) := ⟨ha, fun n => by
  rw [hm n]
  by_cases hn : n = k
  · subst hn
    simp [cnt]
  · rw [if_neg hn, h.2 n]
    have : ¬ k = n := fun e => hn e.symm
    simp [cnt, List.count_append, this]⟩
section
theorem flow_Critical_1_ct {w : World} {e : Ed} {ga gb m1 m2 c1 c2 : Nat} {es1 es2 : Array MapEntry} {l1 l2 : List Int} (ha : w.cell? ⟨ga, 0, none⟩ = some (.map (some m1))) (hb : w.cell? ⟨gb, 0, none⟩ = some (.map (some m2)))
    (h1 : w.heap[m1]? = some (.map es1 c1)) (h2 : w.heap[m2]? = some (.map es2 c2)) (k1 : Cnts es1.toList l1) (k2 : Cnts es2.toList l2) :
    Ct Tryd.prog 59 #[e.val, .pointer (some ⟨ga, 0, none⟩), .pointer (some ⟨gb, 0, none⟩)] w (Is (.bool (decide (1 < cnt l1 e.to) && decide (1 < cnt l2 e.src)))) := by
  have hlt1 : ga < w.heap.size := World.block_lt_of_cell? w _ ha
  have hlt2 : gb < w.heap.size := World.block_lt_of_cell? w _ hb
  have hm1 := (Array.getElem?_eq_some_iff.1 h1).1
  have hm2 := (Array.getElem?_eq_some_iff.1 h2).1
  refine Ct.mk Tryd.func59 rfl rfl ?_
  refine Cd.seq ?_
  refine Cd.region ?_
  refine Ol.x bxg ?_
  rintro _ _ ⟨g3, rfl, rfl⟩
  refine Ol.p asb ?_
  refine Ol.nil ?_
  refine Cd.seq ?_
  cases hc : decide ((1 : Int) < (cnt l1 e.to : Int)) with
  | true =>
    refine Cd.region ?_
    refine Ol.p (ld one_map_int_int (Rd.inp hlt1 ha)) ?_
    refine Ol.p (fdl fd_api_Edge_2) ?_
    refine Ol.p (ld one_int (Rd.blk (i := 0) rfl rfl)) ?_
    refine Ol.p (lkw mt_map_int_int hm1 h1 k1.1 (k1.2 e.to)) ?_
    refine Ol.p gti ?_
    refine Ol.p mvb ?_
    refine Ol.gp hc (ld one_map_int_int (Rd.inp hlt2 hb)) ?_
    refine Ol.gp hc (fdl fd_api_Edge_0) ?_
    refine Ol.gp hc (ld one_int (Rd.blk (i := 0) rfl rfl)) ?_
    refine Ol.gp hc (lkw mt_map_int_int hm2 h2 k2.1 (k2.2 e.src)) ?_
    refine Ol.gp hc gti ?_
    refine Ol.p (pkTb hc) ?_
    refine Ol.p asb ?_
    refine Ol.nil ?_
    refine Cd.ret ⟨.bool _, ret1 rfl rfl, [], .nil, ?_, rfl⟩
    have : 1 < cnt l1 e.to := by simp at hc; omega
    simp [this]
    omega
  | false =>
    refine Cd.region ?_
    refine Ol.p (ld one_map_int_int (Rd.inp hlt1 ha)) ?_
    refine Ol.p (fdl fd_api_Edge_2) ?_
    refine Ol.p (ld one_int (Rd.blk (i := 0) rfl rfl)) ?_
    refine Ol.p (lkw mt_map_int_int hm1 h1 k1.1 (k1.2 e.to)) ?_
    refine Ol.p gti ?_
    refine Ol.p mvb ?_
    refine Ol.gn hc ?_
    refine Ol.gn hc ?_
    refine Ol.gn hc ?_
    refine Ol.gn hc ?_
    refine Ol.gn hc ?_
    refine Ol.p (pkFb hc) ?_
    refine Ol.p asb ?_
    refine Ol.nil ?_
    refine Cd.ret ⟨.bool _, ret1 rfl rfl, [], .nil, ?_, rfl⟩
    have : ¬ 1 < cnt l1 e.to := by simp at hc; omega
    simp [this]
set_option maxHeartbeats 1000000 in
theorem flow_Critical_ct {w : World} {f : RFun} (hf : FunAt w w.heap.size f) (hfit : Fit f) : Ct Tryd.prog 30 #[f.val] w (NewL 47 3 (someE f.terms (critE f.terms)).length (edV (someE f.terms (critE f.terms)))) := by
  have hbl := hfit.blen
  have htl : f.terms.length = f.blocks.length := by simp [RFun.terms]
  have hel := edgesTo_len_le f.terms f.terms.length
  refine Ct.mk Tryd.func30 rfl rfl ?_
  refine Cd.seq ?_
  refine Cd.region ?_
  refine Ol.x bxg ?_
  rintro _ _ ⟨g1, rfl, rfl⟩
  refine Ol.p ass ?_
  refine Ol.nil ?_
  refine Cd.seq ?_
  refine Cd.region ?_
  refine Ol.x mkm ?_
  rintro _ _ ⟨g6, rfl, rfl⟩
  refine Ol.x mkm ?_
  rintro _ _ ⟨g7, rfl, rfl⟩
  refine Ol.x (alc zr_map_int_int) ?_
  rintro _ _ ⟨g3, rfl, rfl⟩
  refine Ol.x (alc zr_map_int_int) ?_
  rintro _ _ ⟨g4, rfl, rfl⟩
  refine Ol.s (stv sz_map_int_int (i := 1) rfl rfl) ?_
  refine Ol.s (stv sz_map_int_int (i := 0) rfl rfl) ?_
  refine Ol.nil ?_
  refine Cd.seq ?_
  refine Cd.seq ?_
  refine Cd.region ?_
  refine Ol.p (ldw ag_api_Func (i := 4) rfl rfl) ?_
  refine Ol.x (sp_call en_flow_each (fun M w' hh => flow_each_ct (f := f))) ?_
  rintro _ _ ⟨_, rfl, gE, rfl, rfl⟩
  refine Ol.nil ?_
  refine Cd.block ?_
  refine Cd.rf (Own := [blk gE (.cells f.cells.toArray 38)]) (L0 := [blk g4 (.cells #[.map (some g7)] 93), blk g3 (.cells #[.map (some g6)] 93), blk g7 (.map #[] 0), blk g6 (.map #[] 0), blk g1 (.cells f.cells.toArray 38)])
    (fun k L => ∃ es1 es2 c1 c2, L = [blk g4 (.cells #[.map (some g7)] 93), blk g3 (.cells #[.map (some g6)] 93), blk g7 (.map es2 c2), blk g6 (.map es1 c1), blk g1 (.cells f.cells.toArray 38)] ∧ Cnts es1.toList (((edges f.terms).take k).map Ed.to) ∧ Cnts es2.toList (((edges f.terms).take k).map Ed.src))
    (fun _ _ _ => False) (fun _ h => by cases h) en_flow_each_1 (flow_each_1_it hf hfit) (.refl _) ⟨#[], #[], 0, 0, rfl, Cnts.nil, Cnts.nil⟩ ysE_one rfl ?_ ?_ (fun _ _ _ h => h.elim)
  · rintro l H k vs Lj hk ⟨es1, es2, c1, c2, rfl, hk1, hk2⟩
    obtain ⟨e, he, rfl, hlt⟩ := ysE_get hk
    have hkb : k < 2 ^ 52 := by unfold edges at hlt; omega
    have n1 : cnt (((edges f.terms).take k).map Ed.to) e.to ≤ k := Nat.le_trans List.count_le_length (by simp; omega)
    have n2 : cnt (((edges f.terms).take k).map Ed.src) e.src ≤ k := Nat.le_trans List.count_le_length (by simp; omega)
    have s1 : ((edges f.terms).take (k + 1)).map Ed.to = ((edges f.terms).take k).map Ed.to ++ [e.to] := by rw [take_snoc_ he, List.map_append]; rfl
    have s2 : ((edges f.terms).take (k + 1)).map Ed.src = ((edges f.terms).take k).map Ed.src ++ [e.src] := by rw [take_snoc_ he, List.map_append]; rfl
    refine Cd.region ?_
    refine Ol.x (alc zr_api_Edge) ?_
    rintro _ _ ⟨g5, rfl, rfl⟩
    refine Ol.s (stw sz_api_Edge rfl e.one (i := 0) rfl rfl) ?_
    refine Ol.nil ?_
    intro H' r hr
    refine Cd.block ?_
    refine Cd.seq ?_
    refine Cd.region ?_
    refine Ol.p (ldv one_map_int_int (i := 2) rfl) ?_
    refine Ol.p (fdl fd_api_Edge_2) ?_
    refine Ol.p (ld one_int (Rd.blk (i := 0) rfl rfl)) ?_
    refine Ol.p (lkn mt_map_int_int (i := 4) rfl hk1.1 (hk1.2 e.to)) ?_
    refine Ol.p addi ?_
    refine Ol.x (upm (v := .int .i64 ((cnt (((edges f.terms).take k).map Ed.to) e.to : Int) + 1)) mt_map_int_int (i := 4) rfl hk1.1 rfl) ?_
    rintro _ _ ⟨es1', c1', rfl, ha1, hm1⟩
    refine Ol.nil ?_
    refine Cd.region ?_
    refine Ol.p (ldv one_map_int_int (i := 1) rfl) ?_
    refine Ol.p (fdl fd_api_Edge_0) ?_
    refine Ol.p (ld one_int (Rd.blk (i := 0) rfl rfl)) ?_
    refine Ol.p (lkn mt_map_int_int (i := 3) rfl hk2.1 (hk2.2 e.src)) ?_
    refine Ol.p addi ?_
    refine Ol.x (upm (v := .int .i64 ((cnt (((edges f.terms).take k).map Ed.src) e.src : Int) + 1)) mt_map_int_int (i := 3) rfl hk2.1 rfl) ?_
    rintro _ _ ⟨es2', c2', rfl, ha2, hm2⟩
    refine Ol.keep (.sub (.cons _ (List.Sublist.refl _))) ?_
    refine Ol.nil ?_
    refine ⟨es1', es2', c1', c2', rfl, ?_, ?_⟩
    · rw [s1]; exact hk1.snoc ha1 hm1
    · rw [s2]; exact hk2.snoc ha2 hm2
  · rintro L' ⟨es1, es2, c1, c2, rfl, hk1, hk2⟩
    rw [ysE_len, List.take_length] at hk1 hk2
    refine Cd.seq ?_
    refine Cd.region ?_
    refine Ol.p (ldw ag_api_Func (i := 4) rfl rfl) ?_
    refine Ol.p mkf ?_
    refine Ol.x (sp_call en_flow_some (fun M w' hh => flow_some_ct (g := 59) (fst := #[]) (cap := #[.pointer (some ⟨g3, 0, none⟩), .pointer (some ⟨g4, 0, none⟩)]) (p := critE f.terms) (hf.now hh) hfit ⟨en_flow_Critical_1, fun e he w2 h2 => flow_Critical_1_ct (Hp.keeps hh (i := 1) rfl rfl h2) (Hp.keeps hh (i := 0) rfl rfl h2) (Hp.keepsObj hh (i := 3) rfl h2).1 (Hp.keepsObj hh (i := 2) rfl h2).1 hk1 hk2⟩)) ?_
    rintro _ _ ⟨_, rfl, A, c, rfl, rfl⟩
    refine Ol.p ass ?_
    refine Ol.nil ?_
    refine Cd.ret ⟨.slice _ _ _, ret1 rfl rfl, _, .sub (.cons_cons _ (List.nil_sublist _)), A, c, rfl, rfl⟩
end
end Go.Proofs.YtbcnejobnmljlaaDoor
