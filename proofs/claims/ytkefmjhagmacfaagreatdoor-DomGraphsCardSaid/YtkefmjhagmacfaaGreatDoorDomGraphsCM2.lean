/- Part 2 of the proof of DomGraphsC: the texts Ir, IrM, Misc, Ins, IrS, RefA, RefB, Reach, Dfs, FlowLaw, IrL, DrawT, NRows, IrV, Flow, IrW, RefC, IrX, Que, IrR, IrU, IrT, Flow2, CountsLaw, RefP, RefD, RefE, Ref10A, Flow3, Order, Struct, Law10, Perm, Ref10B, DomLaw, DomF, DomR, one behind the other. -/
import Derived.ArgAppend
import Derived.Laws.StructEq
import Derived.WalkKit
import Derived.Test.YtkefmjhagmacfaaGreatDoorDomGraphsCM1
/- The package ir: ends, where they go; the slices' functions that they call, walked. -/
namespace Go.Proofs.YtkefmjhagmacfaaGreatDoor
set_option linter.unusedVariables false
open Go Go.RowKit
set_option maxRecDepth 100000

section
theorem ir_variable_ct {w : World} {n : Int} : Ct Tryz.prog 111 #[.int .i64 n] w (Is (.bool (varB n))) := by
  refine Ct.mk Tryz.func111 rfl rfl ?_
  refine Cd.seq ?_
  refine Cd.region ?_
  refine Ol.p asb ?_
  refine Ol.nil ?_
  refine Cd.seq ?_
  cases h : decide (1 ≤ n) with
  | true =>
    refine Cd.region ?_
    refine Ol.p mvi ?_
    refine Ol.p gei ?_
    refine Ol.p mvb ?_
    refine Ol.gp h mvi ?_
    refine Ol.gp h lei ?_
    refine Ol.p (pkTb h) ?_
    refine Ol.p asb ?_
    refine Ol.nil ?_
    refine Cd.ret ⟨.bool _, ret1 rfl rfl, [], .nil, ?_, rfl⟩
    unfold varB; rw [h]; rfl
  | false =>
    refine Cd.region ?_
    refine Ol.p mvi ?_
    refine Ol.p gei ?_
    refine Ol.p mvb ?_
    refine Ol.gn h ?_
    refine Ol.gn h ?_
    refine Ol.p (pkFb h) ?_
    refine Ol.p asb ?_
    refine Ol.nil ?_
    refine Cd.ret ⟨.bool _, ret1 rfl rfl, [], .nil, ?_, rfl⟩
    unfold varB; rw [h]; rfl
theorem ir_fits_ct {w : World} {b : Bool} {n : Int} : Ct Tryz.prog 112 #[.bool b, .int .i64 n] w (Is (.bool (fitsB b n))) := by
  refine Ct.mk Tryz.func112 rfl rfl ?_
  refine Cd.seq ?_
  refine Cd.region ?_
  refine Ol.p asb ?_
  refine Ol.nil ?_
  refine Cd.seq ?_
  refine Cd.seq ?_
  refine Cd.region ?_
  refine Ol.p mvb ?_
  refine Ol.nil ?_
  refine Cd.cond rfl (fun h => ?_) (fun h => ?_)
  · subst h
    refine Cd.seq ?_
    refine Cd.region ?_
    refine Ol.p mvi ?_
    refine Ol.s (cl en_ir_variable (fun M w' hh => ir_variable_ct)) ?_
    refine Ol.p asb ?_
    refine Ol.nil ?_
    refine Cd.ret ⟨.bool _, ret1 rfl rfl, [], .nil, rfl, rfl⟩
  · subst h
    refine Cd.skip ?_
    refine Cd.seq ?_
    refine Cd.region ?_
    refine Ol.p mvi ?_
    refine Ol.p eqi ?_
    refine Ol.p asb ?_
    refine Ol.nil ?_
    refine Cd.ret ⟨.bool _, ret1 rfl rfl, [], .nil, rfl, rfl⟩
end

/-- The place of the first one that p takes. -/
def indexI {α : Type} (p : α → Bool) (l : List α) : Int := match l.findIdx? p with
  | some i => (i : Int)
  | none => -1
theorem indexI_at {α : Type} {p : α → Bool} {l : List α} {k : Nat} {x : α} (hx : l[k]? = some x) (hp : p x = true) (hb : ∀ i y, i < k → l[i]? = some y → p y = false) : indexI p l = (k : Int) := by
  have hk := (List.getElem?_eq_some_iff.1 hx).1
  have : l.findIdx? p = some k := by
    rw [List.findIdx?_eq_some_iff_getElem]
    refine ⟨hk, ?_, ?_⟩
    · rw [(List.getElem?_eq_some_iff.1 hx).2]; exact hp
    · intro j hj
      rw [hb j l[j] hj (List.getElem?_eq_getElem (by omega))]; simp
  unfold indexI; rw [this]
theorem indexI_none {α : Type} {p : α → Bool} {l : List α} (hb : ∀ i y, i < l.length → l[i]? = some y → p y = false) : indexI p l = -1 := by
  have : l.findIdx? p = none := by
    rw [List.findIdx?_eq_none_iff]
    intro x hx
    obtain ⟨i, hi, rfl⟩ := List.getElem_of_mem hx
    exact hb i _ hi (List.getElem?_eq_getElem hi)
  unfold indexI; rw [this]
theorem indexI_ge {α : Type} (p : α → Bool) (l : List α) : decide ((0 : Int) ≤ indexI p l) = l.any p := by
  rw [Bool.eq_iff_iff, decide_eq_true_iff]
  unfold indexI
  cases h : l.findIdx? p with
  | none =>
    rw [List.findIdx?_eq_none_iff] at h
    constructor
    · intro h0; simp at h0
    · intro h0
      rw [List.any_eq_true] at h0
      obtain ⟨x, hx, hp⟩ := h0
      rw [h x hx] at hp; cases hp
  | some i =>
    rw [List.findIdx?_eq_some_iff_getElem] at h
    obtain ⟨hi, hp, _⟩ := h
    constructor
    · intro _
      rw [List.any_eq_true]
      exact ⟨_, List.getElem_mem hi, hp⟩
    · intro _; show (0 : Int) ≤ (i : Int); omega
/-- A function value that tells whether something is so of numbers. -/
def TellsI (P : Program) (w : World) (g : FuncId) (fst cap : Array Value) (l : List Int) (p : Int → Bool) : Prop := Ent P g ∧ ∀ n ∈ l, ∀ w', Below w.heap.size w w' → Ct P g (fst ++ #[.int .i64 n] ++ cap) w' (Is (.bool (p n)))
section
theorem slices_IndexFunc_L_int_int_ct {w : World} {A : Option Addr} {c : Nat} {l : List Int} {g : FuncId} {fst cap : Array Value} {p : Int → Bool} (hl : Reads w w.heap.size 1 A l.length (ints l)) (hb : l.length < 2 ^ 62) (hf : TellsI Tryz.prog w g fst cap l p) :
    Ct Tryz.prog 142 #[.slice A l.length c, .func (.func g) fst cap] w (Is (.int .i64 (indexI p l))) := by
  refine Ct.mk Tryz.func142 rfl rfl ?_
  refine Cd.seq ?_
  refine Cd.region ?_
  refine Ol.p asi ?_
  refine Ol.nil ?_
  refine Cd.seq ?_
  refine Cd.seq ?_
  refine Cd.region ?_
  refine Ol.p mvs ?_
  refine Ol.p (lens sl_L_int) ?_
  refine Ol.p mvi ?_
  refine Ol.nil ?_
  refine Cd.block ?_
  refine Cd.loop (fun m σ L => ∃ k, m = l.length - k ∧ k ≤ l.length ∧ Has σ [(0, .slice A l.length c), (1, .func (.func g) fst cap), (7, .int .i64 l.length), (8, .int .i64 k)] ∧ L = [] ∧ ∀ i y, i < k → l[i]? = some y → p y = false) (n := l.length) ⟨0, rfl, Nat.zero_le _, ⟨rfl, rfl, rfl, rfl, trivial⟩, rfl, fun i y h => by omega⟩ ?_
  rintro _ σ L ⟨k, rfl, hk, hs, rfl, hno⟩
  refine Cd.has hs ?_
  refine Cd.seq ?_
  refine Cd.region ?_
  refine Ol.p lsi ?_
  refine Ol.nil ?_
  refine Cd.seq ?_
  refine Cd.cond rfl (fun h => ?_) (fun h => ?_)
  · have hlt : k < l.length := by simpa using h
    refine Cd.skip ?_
    refine Cd.seq ?_
    refine Cd.block ?_
    refine Cd.seq ?_
    refine Cd.region ?_
    refine Ol.p mvi ?_
    refine Ol.p asi ?_
    refine Ol.nil ?_
    refine Cd.seq ?_
    refine Cd.region ?_
    refine Ol.p mvf ?_
    refine Ol.p mvs ?_
    refine Ol.p mvi ?_
    refine Ol.p (ixn1 sl_L_int (Som.slc hl (by omega))) ?_
    refine Ol.p (ld one_int (Rd.slc hl (ints_get hlt))) ?_
    refine Ol.x (sp_callv hf.1 (fun M w' hh => hf.2 _ (List.getElem_mem hlt) w' hh.below)) ?_
    rintro _ _ ⟨_, rfl, rfl, rfl⟩
    refine Ol.nil ?_
    refine Cd.cond rfl (fun h2 => ?_) (fun h2 => ?_)
    · refine Cd.seq ?_
      refine Cd.region ?_
      refine Ol.p mvi ?_
      refine Ol.p asi ?_
      refine Ol.nil ?_
      refine Cd.ret ⟨_, ret1 rfl rfl, [], .nil, ?_, rfl⟩
      rw [indexI_at (List.getElem?_eq_getElem hlt) h2 hno]
      rfl
    · refine Cd.skip ?_
      refine Cd.region ?_
      refine Ol.p addi ?_
      refine Ol.p mvi ?_
      refine Ol.nil ?_
      refine ⟨l.length - (k + 1), by omega, k + 1, rfl, by omega, ⟨rfl, rfl, rfl, rfl, trivial⟩, rfl, ?_⟩
      intro i y hi hy
      rcases Nat.lt_or_ge i k with h3 | h3
      · exact hno i y h3 hy
      · have : i = k := by omega
        subst this
        rw [List.getElem?_eq_getElem hlt] at hy
        cases hy
        exact h2
  · have hge : k = l.length := by
      have : ¬ (k : Int) < l.length := by simpa using h
      omega
    subst hge
    refine Cd.exit (id := 0) ?_
    refine Cd.seq ?_
    refine Cd.region ?_
    refine Ol.p asi ?_
    refine Ol.nil ?_
    refine Cd.ret ⟨_, ret1 rfl rfl, [], .nil, ?_, rfl⟩
    rw [indexI_none hno]
    rfl
theorem slices_ContainsFunc_L_int_int_ct {w : World} {A : Option Addr} {c : Nat} {l : List Int} {g : FuncId} {fst cap : Array Value} {p : Int → Bool} (hl : Reads w w.heap.size 1 A l.length (ints l)) (hb : l.length < 2 ^ 62) (hf : TellsI Tryz.prog w g fst cap l p) :
    Ct Tryz.prog 137 #[.slice A l.length c, .func (.func g) fst cap] w (Is (.bool (l.any p))) := by
  refine Ct.mk Tryz.func137 rfl rfl ?_
  refine Cd.seq ?_
  refine Cd.region ?_
  refine Ol.p asb ?_
  refine Ol.nil ?_
  refine Cd.seq ?_
  refine Cd.region ?_
  refine Ol.p mvs ?_
  refine Ol.p mvf ?_
  refine Ol.s (cl en_slices_IndexFunc_L_int_int (fun M w' hh => slices_IndexFunc_L_int_int_ct (hl.now hh) hb ⟨hf.1, fun n hn w2 h2 => hf.2 n hn w2 (hh.below.trans (h2.mono hh.le))⟩)) ?_
  refine Ol.p gei ?_
  refine Ol.p asb ?_
  refine Ol.nil ?_
  refine Cd.ret ⟨.bool _, ret1 rfl rfl, [], .nil, ?_, rfl⟩
  rw [indexI_ge]
end
theorem Tm.tos (t : Tm) : ∀ (j : Nat) (u : Value), (ints [t.t0, t.t1])[j]? = some u → t.cells.toArray[2 + j]? = some u
  | 0, _, h => h
  | 1, _, h => h
  | _ + 2, _, h => by simp [ints] at h
section
theorem ir_none_1_ct {w : World} {n : Int} : Ct Tryz.prog 138 #[.int .i64 n] w (Is (.bool (!decide (n = 0)))) := by
  refine Ct.mk Tryz.func138 rfl rfl ?_
  refine Cd.seq ?_
  refine Cd.region ?_
  refine Ol.p asb ?_
  refine Ol.nil ?_
  refine Cd.seq ?_
  refine Cd.region ?_
  refine Ol.p mvi ?_
  refine Ol.p nei ?_
  refine Ol.p asb ?_
  refine Ol.nil ?_
  refine Cd.ret ⟨.bool _, ret1 rfl rfl, [], .nil, rfl, rfl⟩
theorem ir_none_ct {w : World} {A : Option Addr} {c : Nat} {l : List Int} (hl : Reads w w.heap.size 1 A l.length (ints l)) (hb : l.length < 2 ^ 62) : Ct Tryz.prog 110 #[.slice A l.length c] w (Is (.bool (noneB l))) := by
  refine Ct.mk Tryz.func110 rfl rfl ?_
  refine Cd.seq ?_
  refine Cd.region ?_
  refine Ol.p asb ?_
  refine Ol.nil ?_
  refine Cd.seq ?_
  refine Cd.region ?_
  refine Ol.p mvs ?_
  refine Ol.s (cl en_slices_ContainsFunc_L_int_int (fun M w' hh => slices_ContainsFunc_L_int_int_ct (g := 138) (fst := #[]) (cap := #[]) (p := fun n => !decide (n = 0)) (hl.now hh) hb ⟨en_ir_none_1, fun n hn w2 h2 => ir_none_1_ct⟩)) ?_
  refine Ol.p noti ?_
  refine Ol.p asb ?_
  refine Ol.nil ?_
  refine Cd.ret ⟨.bool _, ret1 rfl rfl, [], .nil, ?_, rfl⟩
  unfold noneB
  rw [List.not_any_eq_all_not]
  simp
set_option maxHeartbeats 1000000 in
theorem ir_IsTerm_ct {w : World} {t : Tm} : Ct Tryz.prog 83 #[t.val] w (Is (.bool (isTerm t))) := by
  refine Ct.mk Tryz.func83 rfl rfl ?_
  refine Cd.seq ?_
  refine Cd.region ?_
  refine Ol.x bxg ?_
  rintro _ _ ⟨g1, rfl, rfl⟩
  refine Ol.p asb ?_
  refine Ol.nil ?_
  refine Cd.seq ?_
  refine Cd.seq ?_
  refine Cd.region ?_
  refine Ol.p (fdl fd_api_Term_0) ?_
  refine Ol.p (ld one_api_TermKind (Rd.blk (i := 0) rfl rfl)) ?_
  refine Ol.nil ?_
  refine Cd.block ?_
  refine Cd.seq ?_
  refine Cd.region ?_
  refine Ol.p eqi ?_
  refine Ol.p asb ?_
  refine Ol.nil ?_
  refine Cd.cond rfl (fun h1 => ?_) (fun h1 => ?_)
  · refine Cd.seq ?_
    refine Cd.region ?_
    refine Ol.p (fdl fd_api_Term_1) ?_
    refine Ol.p (ld one_int (Rd.blk (i := 0) rfl rfl)) ?_
    refine Ol.p (fdl fd_api_Term_2) ?_
    refine Ol.p (ixl (ix := 1) ar_A2_int) ?_
    refine Ol.p (ld one_int (Rd.blk (i := 0) rfl rfl)) ?_
    refine Ol.x (bsv [.int .i64 t.a, .int .i64 t.t1] sl_L_int zr_int (by simp [Value.cells])) ?_
    rintro _ _ ⟨g12, rfl, rfl⟩
    refine Ol.s (cl en_ir_none (fun M w' hh => ir_none_ct (l := [t.a, t.t1]) (Reads.row hh (i := 0) rfl) (by simp))) ?_
    refine Ol.p asb ?_
    refine Ol.nil ?_
    refine Cd.ret ⟨.bool _, ret1 rfl rfl, [], .nil, ?_, rfl⟩
    unfold isTerm; rw [h1]; rfl
  · refine Cd.seq ?_
    refine Cd.region ?_
    refine Ol.p eqi ?_
    refine Ol.p asb ?_
    refine Ol.nil ?_
    refine Cd.cond rfl (fun h2 => ?_) (fun h2 => ?_)
    · refine Cd.seq ?_
      refine Cd.region ?_
      refine Ol.p (fdl fd_api_Term_1) ?_
      refine Ol.p (ld one_int (Rd.blk (i := 0) rfl rfl)) ?_
      refine Ol.s (cl en_ir_variable (fun M w' hh => ir_variable_ct)) ?_
      refine Ol.p asb ?_
      refine Ol.nil ?_
      refine Cd.ret ⟨.bool _, ret1 rfl rfl, [], .nil, ?_, rfl⟩
      unfold isTerm; rw [h1, h2]; rfl
    · refine Cd.seq ?_
      refine Cd.region ?_
      refine Ol.p eqi ?_
      refine Ol.p asb ?_
      refine Ol.nil ?_
      refine Cd.cond rfl (fun h3 => ?_) (fun h3 => ?_)
      · refine Cd.seq ?_
        cases h4 : fitsB (!decide (t.a = 0)) t.a with
        | true =>
          refine Cd.region ?_
          refine Ol.p (fdl fd_api_Term_1) ?_
          refine Ol.p (ld one_int (Rd.blk (i := 0) rfl rfl)) ?_
          refine Ol.p nei ?_
          refine Ol.p (fdl fd_api_Term_1) ?_
          refine Ol.p (ld one_int (Rd.blk (i := 0) rfl rfl)) ?_
          refine Ol.s (cl en_ir_fits (fun M w' hh => ir_fits_ct)) ?_
          refine Ol.p mvb ?_
          refine Ol.gp h4 (fdl fd_api_Term_2) ?_
          refine Ol.gp h4 (sla ar_A2_int) ?_
          refine Ol.gs h4 (cl en_ir_none (fun M w' hh => ir_none_ct (l := [t.t0, t.t1]) (Reads.blk hh (i := 0) rfl rfl t.tos) (by simp))) ?_
          refine Ol.p (pkTb h4) ?_
          refine Ol.p asb ?_
          refine Ol.nil ?_
          refine Cd.ret ⟨.bool _, ret1 rfl rfl, [], .nil, ?_, rfl⟩
          unfold isTerm; rw [h1, h2, h3, h4]; rfl
        | false =>
          refine Cd.region ?_
          refine Ol.p (fdl fd_api_Term_1) ?_
          refine Ol.p (ld one_int (Rd.blk (i := 0) rfl rfl)) ?_
          refine Ol.p nei ?_
          refine Ol.p (fdl fd_api_Term_1) ?_
          refine Ol.p (ld one_int (Rd.blk (i := 0) rfl rfl)) ?_
          refine Ol.s (cl en_ir_fits (fun M w' hh => ir_fits_ct)) ?_
          refine Ol.p mvb ?_
          refine Ol.gn h4 ?_
          refine Ol.gn h4 ?_
          refine Ol.gn h4 ?_
          refine Ol.p (pkFb h4) ?_
          refine Ol.p asb ?_
          refine Ol.nil ?_
          refine Cd.ret ⟨.bool _, ret1 rfl rfl, [], .nil, ?_, rfl⟩
          unfold isTerm; rw [h1, h2, h3, h4]; rfl
      · refine Cd.skip ?_
        refine Cd.seq ?_
        cases h4 : decide (t.kind = 4) with
        | true =>
          refine Cd.region ?_
          refine Ol.p (fdl fd_api_Term_0) ?_
          refine Ol.p (ld one_api_TermKind (Rd.blk (i := 0) rfl rfl)) ?_
          refine Ol.p eqi ?_
          refine Ol.p mvb ?_
          refine Ol.gp h4 (fdl fd_api_Term_1) ?_
          refine Ol.gp h4 (ld one_int (Rd.blk (i := 0) rfl rfl)) ?_
          refine Ol.gp h4 (fdl fd_api_Term_2) ?_
          refine Ol.gp h4 (ixl (ix := 0) ar_A2_int) ?_
          refine Ol.gp h4 (ld one_int (Rd.blk (i := 0) rfl rfl)) ?_
          refine Ol.gp h4 (fdl fd_api_Term_2) ?_
          refine Ol.gp h4 (ixl (ix := 1) ar_A2_int) ?_
          refine Ol.gp h4 (ld one_int (Rd.blk (i := 0) rfl rfl)) ?_
          refine Ol.gx h4 (bsv [.int .i64 t.a, .int .i64 t.t0, .int .i64 t.t1] sl_L_int zr_int (by simp [Value.cells])) ?_
          rintro _ _ ⟨g44, rfl, rfl⟩
          refine Ol.gs h4 (cl en_ir_none (fun M w' hh => ir_none_ct (l := [t.a, t.t0, t.t1]) (Reads.row hh (i := 0) rfl) (by simp))) ?_
          refine Ol.p (pkTb h4) ?_
          refine Ol.p asb ?_
          refine Ol.nil ?_
          refine Cd.ret ⟨.bool _, ret1 rfl rfl, [], .nil, ?_, rfl⟩
          unfold isTerm; rw [h1, h2, h3, h4]; rfl
        | false =>
          refine Cd.region ?_
          refine Ol.p (fdl fd_api_Term_0) ?_
          refine Ol.p (ld one_api_TermKind (Rd.blk (i := 0) rfl rfl)) ?_
          refine Ol.p eqi ?_
          refine Ol.p mvb ?_
          refine Ol.gn h4 ?_
          refine Ol.gn h4 ?_
          refine Ol.gn h4 ?_
          refine Ol.gn h4 ?_
          refine Ol.gn h4 ?_
          refine Ol.gn h4 ?_
          refine Ol.gn h4 ?_
          refine Ol.gn h4 ?_
          refine Ol.gn h4 ?_
          refine Ol.gn h4 ?_
          refine Ol.p (pkFb h4) ?_
          refine Ol.p asb ?_
          refine Ol.nil ?_
          refine Cd.ret ⟨.bool _, ret1 rfl rfl, [], .nil, ?_, rfl⟩
          unfold isTerm; rw [h1, h2, h3, h4]; rfl
end
section
theorem slices_Clone_L_int_int_ct {w : World} {A : Option Addr} {c n : Nat} {xs : List Value} (hl : Reads w w.heap.size 1 A n xs) (h1 : ∀ u ∈ xs, u.oneCell' = true) (hb : n < 2 ^ 43) : Ct Tryz.prog 84 #[.slice A n c] w (NewL 3 1 n xs) := by
  refine Ct.mk Tryz.func84 rfl rfl ?_
  refine Cd.seq ?_
  refine Cd.region ?_
  refine Ol.p ass ?_
  refine Ol.nil ?_
  refine Cd.seq ?_
  refine Cd.seq ?_
  refine Cd.region ?_
  refine Ol.p mvs ?_
  refine Ol.p (esn sl_L_int) ?_
  refine Ol.nil ?_
  refine Cd.cond rfl (fun h => ?_) (fun h => ?_)
  · refine Cd.seq ?_
    refine Cd.region ?_
    refine Ol.p ass ?_
    refine Ol.nil ?_
    refine Cd.nr 3 1 ?_
    have h0 : n = 0 := by
      rcases Nat.eq_zero_or_pos n with h0 | h0
      · exact h0
      · obtain ⟨a, rfl, _⟩ := hl.2 h0; cases h
    subst h0
    have hx : xs = [] := List.eq_nil_of_length_eq_zero (by simpa using hl.1)
    subst hx
    refine Cd.ret ⟨.slice none 0 0, ret1 rfl rfl, _, .all, none, 0, rfl, rfl⟩
  · refine Cd.skip ?_
    refine Cd.seq ?_
    refine Cd.region ?_
    refine Ol.x (bsv [] sl_L_int zr_int (by simp)) ?_
    rintro _ _ ⟨g5, rfl, rfl⟩
    refine Ol.p mvs ?_
    refine Ol.x (apn (i := 0) (n := 0) (xs := []) sl_L_int zr_int rfl (by decide) rfl (Src.slc hl) h1 (by unfold maxLen; omega) (by omega)) ?_
    rintro _ _ ⟨A', c', rfl, rfl⟩
    refine Ol.p ass ?_
    refine Ol.nil ?_
    rw [Nat.zero_add]
    refine Cd.ret ⟨.slice A' n c', ret1 rfl rfl, _, .all, A', c', rfl, rfl⟩
end
section
set_option maxHeartbeats 1000000 in
theorem ir_To_ct {w : World} {t : Tm} : Ct Tryz.prog 60 #[t.val] w (NewL 3 1 (toL t).length (ints (toL t))) := by
  refine Ct.mk Tryz.func60 rfl rfl ?_
  refine Cd.seq ?_
  refine Cd.region ?_
  refine Ol.x bxg ?_
  rintro _ _ ⟨g1, rfl, rfl⟩
  refine Ol.p ass ?_
  refine Ol.nil ?_
  refine Cd.seq ?_
  refine Cd.block ?_
  refine Cd.seq ?_
  refine Cd.region ?_
  refine Ol.p (ldw ag_api_Term (i := 0) rfl rfl) ?_
  refine Ol.s (cl en_ir_IsTerm (fun M w' hh => ir_IsTerm_ct (t := t))) ?_
  refine Ol.p noti ?_
  refine Ol.p asb ?_
  refine Ol.nil ?_
  refine Cd.cond rfl (fun h1 => ?_) (fun h1 => ?_)
  · have e : toL t = [] := by unfold toL; cases h : isTerm t <;> simp [h] at h1 ⊢
    rw [e]
    refine Cd.skip ?_
    refine Cd.seq ?_
    refine Cd.region ?_
    refine Ol.p ass ?_
    refine Ol.nil ?_
    refine Cd.nr 3 1 ?_
    refine Cd.ret ⟨.slice none 0 0, ret1 rfl rfl, _, .sub (.cons_cons _ (.cons _ .slnil)), none, 0, rfl, rfl⟩
  · have e1 : isTerm t = true := by simpa using h1
    refine Cd.seq ?_
    refine Cd.region ?_
    refine Ol.p (fdl fd_api_Term_0) ?_
    refine Ol.p (ld one_api_TermKind (Rd.blk (i := 0) rfl rfl)) ?_
    refine Ol.p eqi ?_
    refine Ol.p asb ?_
    refine Ol.nil ?_
    refine Cd.cond rfl (fun h2 => ?_) (fun h2 => ?_)
    · have e : toL t = [t.t0] := by unfold toL; rw [e1, h2]; rfl
      rw [e]
      refine Cd.seq ?_
      refine Cd.region ?_
      refine Ol.p (fdl fd_api_Term_2) ?_
      refine Ol.p (ixl (ix := 0) ar_A2_int) ?_
      refine Ol.p (ld one_int (Rd.blk (i := 0) rfl rfl)) ?_
      refine Ol.x (bsv [.int .i64 t.t0] sl_L_int zr_int (by simp [Value.cells])) ?_
      rintro _ _ ⟨g14, rfl, rfl⟩
      refine Ol.p ass ?_
      refine Ol.nil ?_
      refine Cd.ret ⟨.slice _ _ _, ret1 rfl rfl, _, .sub (.cons_cons _ (.cons _ .slnil)), _, _, rfl, rfl⟩
    · refine Cd.seq ?_
      refine Cd.region ?_
      refine Ol.p (fdl fd_api_Term_0) ?_
      refine Ol.p (ld one_api_TermKind (Rd.blk (i := 0) rfl rfl)) ?_
      refine Ol.p eqi ?_
      refine Ol.p asb ?_
      refine Ol.nil ?_
      refine Cd.cond rfl (fun h3 => ?_) (fun h3 => ?_)
      · have e : toL t = [t.t0, t.t1] := by unfold toL; rw [e1, h2, h3]; rfl
        rw [e]
        refine Cd.seq ?_
        refine Cd.region ?_
        refine Ol.p (fdl fd_api_Term_2) ?_
        refine Ol.p (sla ar_A2_int) ?_
        refine Ol.x (sp_call en_slices_Clone_L_int_int (fun M w' hh => slices_Clone_L_int_int_ct (xs := ints [t.t0, t.t1]) (Reads.blk hh (i := 0) rfl rfl t.tos) (ints_one _) (by simp [ints]))) ?_
        rintro _ _ ⟨_, rfl, A, c, rfl, rfl⟩
        refine Ol.p ass ?_
        refine Ol.nil ?_
        refine Cd.ret ⟨.slice _ _ _, ret1 rfl rfl, _, .sub (.cons_cons _ (.cons _ .slnil)), _, _, rfl, rfl⟩
      · have e : toL t = [] := by unfold toL; rw [e1, h2, h3]; rfl
        rw [e]
        refine Cd.skip ?_
        refine Cd.seq ?_
        refine Cd.region ?_
        refine Ol.p ass ?_
        refine Ol.nil ?_
        refine Cd.nr 3 1 ?_
        refine Cd.ret ⟨.slice none 0 0, ret1 rfl rfl, _, .sub (.cons_cons _ (.cons _ .slnil)), none, 0, rfl, rfl⟩
end
end Go.Proofs.YtkefmjhagmacfaaGreatDoor

/- Instructions and whole functions: plain definitions and laws (no program in sight). -/
namespace Go.Proofs.YtkefmjhagmacfaaGreatDoor
set_option linter.unusedVariables false
open Go Go.RowKit

/-! ### Instructions -/
structure Shp where
  dst : Bool
  a : Bool
  b : Bool
  imm : Bool
  call : Bool
def shp (o : Int) : Shp × Bool :=
  bif decide (o = 13) then (⟨false, false, false, false, true⟩, true) else bif decide (o = 1) then (⟨true, false, false, true, false⟩, true) else
  bif decide (o = 12) then (⟨false, true, true, true, false⟩, true) else bif decide (o = 11) then (⟨true, true, false, true, false⟩, true) else
  bif decide (o = 14) then (⟨true, true, false, false, false⟩, true) else (⟨true, true, true, false, false⟩, decide (2 ≤ o) && decide (o ≤ 10))
def Shp.cells (s : Shp) : List Value := [.bool s.dst, .bool s.a, .bool s.b, .bool s.imm, .bool s.call]
def Shp.val (s : Shp) : Value := .agg s.cells.toArray
def isIns (i : RIns) : Bool :=
  bif !(shp i.op).2 || !decide (i.many = 0) then false else
  bif (shp i.op).1.call then noneB [i.a, i.b, i.imm] && (decide (0 ≤ i.callee) && decide (i.callee ≤ 99)) && fitsB (!decide (i.dst = 0)) i.dst && decide (i.args.length ≤ 8) && i.args.all varB else
  bif (!(shp i.op).1.imm && !decide (i.imm = 0)) || decide (i.imm < -1099511627776) || decide (1099511627776 < i.imm) then false else
  decide (i.callee = 0) && decide (i.args.length = 0) && fitsB (shp i.op).1.dst i.dst && fitsB (shp i.op).1.a i.a && fitsB (shp i.op).1.b i.b
def readsL (i : RIns) : List Int := bif isIns i then [i.a, i.b].filter (fun n => !decide (n = 0)) ++ i.args else []
def defI (i : RIns) : Int := bif isIns i then i.dst else 0
def needsL (t : Tm) : List Int := bif isTerm t && !decide (t.a = 0) then [t.a] else []
/-! ### Sets of variables: arrays of 201 truths -/
abbrev VS := Nat → Bool
def encV (f : VS) : Array Value := ((List.range 201).map fun i => Value.bool (f i)).toArray
def putV (f : VS) (k : Nat) (b : Bool) : VS := fun i => if i = k then b else f i
def hasV (f : VS) (l : List Int) : Bool := l.all fun v => f v.toNat
def putsV (f : VS) (l : List Int) (b : Bool) : VS := l.foldl (fun f v => putV f v.toNat b) f

/-! ### Whole functions -/
def longF (f : RFun) : Bool := decide (f.blocks.length = 0) || decide (200 < f.blocks.length) || decide (8 < f.params.length) || f.blocks.any fun b => decide (64 < b.ins.length)
def wholeB (b : RBlk) : Bool := isTerm b.term && b.ins.all isIns
def wholeF (f : RFun) : Bool := f.params.all varB && decide f.params.Nodup && f.blocks.all wholeB
/-- Is v read from here on, ahead of being defined? -/
def exposed : List RIns → Tm → Int → Bool
  | [], t, v => (needsL t).contains v
  | i :: l, t, v => (readsL i).contains v || (!decide (defI i = v) && exposed l t v)
def defines (l : List RIns) (v : Int) : Bool := l.any fun i => decide (defI i = v)
end Go.Proofs.YtkefmjhagmacfaaGreatDoor

/- Further rules: parts of tuples, conversions with known results, copy, appending to what is new. Over any program. -/
namespace Go.Proofs.YtkefmjhagmacfaaGreatDoor
set_option linter.unusedVariables false
open Go Go.RowKit

theorem extv {P : Program} {w0 : World} {B : Nat} {σ : Env} {L : List Res} {d : Option Nat} {ty : TypeId} {pos : String} {af : Array Edge} {gd : Option (Nat × Bool)} {x : Operand} {v : Value} {vs : Array Value} {i : Nat} (hx : ev σ x = .tuple vs := by exact rfl) (hv : vs[i]? = some v := by exact rfl) : Sd P w0 B ⟨d, .extract x i, ty, pos, af, gd⟩ σ L (v) := exti hv hx
theorem cvx {P : Program} {w0 : World} {B : Nat} {σ : Env} {L : List Res} {d : Option Nat} {ty T u : TypeId} {pos : String} {af : Array Edge} {gd : Option (Nat × Bool)} {x : Operand} {k k2 : IntKind} {a r : Int} {t : TypeDesc} (hs : P.underlying T = some t) (hd : InT P u k2) (hr : k2.wrap a = r) (hx : ev σ x = .int k a := by exact rfl) : Sd P w0 B ⟨d, .convert T u x, ty, pos, af, gd⟩ σ L ((.int k2 r)) := by
  rw [← hr]; exact cvw hs hd hx
theorem cpb {P : Program} {w0 : World} {B : Nat} {σ : Env} {L : List Res} {d : Option Nat} {ty T T2 : TypeId} {pos : String} {af : Array Edge} {gd : Option (Nat × Bool)} {x y : Operand} {i g off n c e s b m c2 q : Nat} {A2 : Option Addr} {cs : Array Value} {ys : List Value} (hT : SlT P T e s b) (hi : L[i]? = some (blk g (.cells cs e))) (hsrc : Src w0 B L A2 m s ys) (h1 : ∀ u ∈ ys, u.oneCell' = true) (hq : q = Nat.min m n) (hfit : off + q * s ≤ cs.size)
    (hx : ev σ x = .slice (some ⟨g, off, none⟩) n c := by exact rfl) (hy : ev σ y = .slice A2 m c2 := by exact rfl) :
    Sp P w0 B ⟨d, .call { callee := .builtin .copy, args := #[x, y], argTypes := #[T, T2] }, ty, pos, af, gd⟩ σ L (det (.int .i64 q) (L.set i (blk g (.cells ((cs.toList.take off ++ ys.take (q * s) ++ cs.toList.drop (off + q * s)).toArray) e)))) := fun M w hh => by
  obtain ⟨inf, hi1, he⟩ := info_of hT.2
  simp only [Prod.mk.injEq] at he
  have hlen := hsrc.1
  have hqm : q ≤ m := by rw [hq]; exact Nat.min_le_left _ _
  have hys : (ys.take (q * s)).length = q * s := by
    rw [List.length_take, hlen]
    exact Nat.min_eq_left (Nat.mul_le_mul_right _ hqm)
  have hc : (Builtin.firstCells inf.size q (.slice A2 m c2)).run P w = .ok (ys.take (q * s)).toArray w := by
    rcases hsrc.2 M w hh with ⟨rfl, rfl⟩ | ⟨a, rfl, hcell⟩
    · have : q = 0 := by omega
      subst this
      rw [run_firstCells_none]; simp
    · refine run_firstCells_some (P := P) w inf.size q a m c2 _ (by rw [hys, he.1]) fun j v hj => ?_
      rw [List.getElem?_take] at hj
      split at hj
      · exact hcell j v hj
      · cases hj
  obtain ⟨w', hr, hst, hb⟩ := run_storeCells_all (P := P) (g := g) (e := e) (ys.take (q * s)) off 0 cs w (hh.at_ hi) (by rw [hys]; omega) (fun u hu => h1 u (List.mem_of_mem_take hu))
  rw [hys] at hb
  simp only [Nat.add_zero] at hb
  refine .inl ⟨.int .i64 q, w', ?_, _, hh.set (r' := blk g (.cells ((cs.toList.take off ++ ys.take (q * s) ++ cs.toList.drop (off + q * s)).toArray) e)) hi hst hb (fun _ hk => .inl hk), rfl, rfl⟩
  simp only [execOp, resolve, invoke, builtin, Sem.run_bind, Sem.run_pure, Result.andThen_ok, List.map_toArray, List.map_cons, List.map_nil, hx, hy]
  have hsz : (sizeOf e).run P w = .ok inf.size w := run_size (by simp [hi1]) w
  have : (Builtin.copy_ #[T, T2] ty #[.slice (some ⟨g, off, none⟩) n c, .slice A2 m c2]).run P w = .ok (.int .i64 q) w' := by
    simp only [Builtin.copy_]
    simp only [Sem.run_bind, run_underlying hT.1, Result.andThen_ok, Builtin.lenOf, Sem.run_pure, hsz, List.getElem?_toArray, List.getElem?_cons_zero, List.getElem?_cons_succ]
    rw [← hq, hc]
    simp only [Result.andThen_ok]
    rw [hr]
    rfl
  rw [this]
  rfl
theorem Grow.adds {P : Program} {w0 : World} {B : Nat} {σ : Env} {r : Res} {L : List Res} {o : Oper} {e s n : Nat} {xs : List Value} (h : Sp P w0 B o σ (r :: L) (Grow 0 e s n xs (r :: L))) : Sp P w0 B o σ (r :: L) (Adds (NewL e s n xs) L) := fun M w hh =>
  Goes.mono (h M w hh) fun v w' ⟨L', h1, A, c, h2, h3⟩ => ⟨L', h1, [row (.slice A n c) e s n xs], h3, A, c, h2, rfl⟩
/-- One that was there has been turned. -/
def Trn (v : Value) (r : Res) : Value → List Res → Prop := fun v' R => v' = v ∧ R = [r]
theorem det.trn {P : Program} {w0 : World} {B : Nat} {σ : Env} {r r' : Res} {L : List Res} {o : Oper} {v : Value} (h : Sp P w0 B o σ (r :: L) (det v (r' :: L))) : Sp P w0 B o σ (r :: L) (Adds (Trn v r') L) := fun M w hh =>
  Goes.mono (h M w hh) fun v w' ⟨L', h1, h2, h3⟩ => ⟨L', h1, [r'], h3, h2, rfl⟩
end Go.Proofs.YtkefmjhagmacfaaGreatDoor

/- The package ir: instructions, what they read and define; ends, what they need: walked. -/
namespace Go.Proofs.YtkefmjhagmacfaaGreatDoor
set_option linter.unusedVariables false
open Go Go.RowKit
set_option maxRecDepth 100000

/-- An instruction that can be read. -/
structure InsAt (w : World) (i : RIns) : Prop where
  args : Reads w w.heap.size 1 i.aA i.args.length (ints i.args)
  len : i.args.length < 2 ^ 50
  callee : -9223372036854775808 ≤ i.callee ∧ i.callee ≤ 9223372036854775807
end Go.Proofs.YtkefmjhagmacfaaGreatDoor

/- The package ir: what instructions read and define, what ends need; sets: walked. -/
namespace Go.Proofs.YtkefmjhagmacfaaGreatDoor
set_option linter.unusedVariables false
open Go Go.RowKit
set_option maxRecDepth 100000

theorem RIns.one (i : RIns) : ∀ u ∈ i.cells, u.oneCell' = true := by
  intro u hu
  unfold RIns.cells at hu
  simp only [List.mem_cons, List.not_mem_nil, or_false] at hu
  rcases hu with rfl | rfl | rfl | rfl | rfl | rfl | rfl | rfl <;> rfl
/-- A block that can be read. -/
structure BlkAt (w : World) (b : RBlk) : Prop where
  ins : Reads w w.heap.size 8 b.iA b.ins.length (b.ins.flatMap RIns.cells)
  all : ∀ i ∈ b.ins, InsAt w i
  len : b.ins.length < 2 ^ 50
theorem ins_cell {l : List RIns} {k j : Nat} {i : RIns} {u : Value} (hk : l[k]? = some i) (hu : i.cells[j]? = some u) : (l.flatMap RIns.cells)[k * 8 + j]? = some u := by
  rw [flat_get RIns.len _ _ _ _ hk (by have := (List.getElem?_eq_some_iff.1 hu).1; rw [RIns.len] at this; exact this)]; exact hu
/-- What the first k of its two parts read. -/
def abTo (i : RIns) (k : Nat) : List Int := ([i.a, i.b].take k).filter fun n => !decide (n = 0)
end Go.Proofs.YtkefmjhagmacfaaGreatDoor

/- The document's answer of layer 03: instructions and ends, walked. -/
namespace Go.Proofs.YtkefmjhagmacfaaGreatDoor
set_option linter.unusedVariables false
set_option linter.unusedSimpArgs false
open Go Go.RowKit
set_option maxRecDepth 100000

section
variable {P : Program} {w0 : World} {B : Nat} {σ : Env} {L : List Res} {d : Option Nat} {ty T : TypeId} {pos : String} {af : Array Edge} {gd : Option (Nat × Bool)} {x y z : Operand} {v : Value}
end
/-- Which parts an Op has, as letters. -/
def hasS (o : Int) : List UInt8 := if o = 1 then [100, 105] else if 2 ≤ o ∧ o ≤ 10 then [100, 97, 98] else if o = 11 then [100, 97, 105] else if o = 12 then [97, 98, 105] else if o = 13 then [99] else if o = 14 then [100, 97] else []
def strB (l : List UInt8) : ByteArray := ⟨l.toArray⟩
def partB (l : List UInt8) (c : UInt8) (n : Int) : Bool := bif l.contains c then varB n else decide (n = 0)

section
theorem ref03_Var_ct {w : World} {n : Int} : Ct Tryz.prog 136 #[.int .i64 n] w (Is (.bool (varB n))) := by
  refine Ct.mk Tryz.func136 rfl rfl ?_
  refine Cd.seq ?_
  refine Cd.region ?_
  refine Ol.p asb ?_
  refine Ol.nil ?_
  have e : varB n = (decide (1 ≤ n) && decide (n ≤ 200)) := rfl
  refine Cd.seq ?_
  cases q0 : decide (1 ≤ n) with
  | true =>
    refine Cd.region ?_
    refine Ol.p mvi ?_
    refine Ol.p gei ?_
    refine Ol.p mvb ?_
    refine Ol.gp q0 mvi ?_
    refine Ol.gp q0 lei ?_
    refine Ol.p (pkTb q0) ?_
    refine Ol.p asb ?_
    refine Ol.nil ?_
    refine Cd.ret ⟨.bool _, ret1 rfl rfl, [], Keep.nil, congrArg Value.bool ?_, rfl⟩
    rw [e, q0]; try rfl
  | false =>
    refine Cd.region ?_
    refine Ol.p mvi ?_
    refine Ol.p gei ?_
    refine Ol.p mvb ?_
    refine Ol.gn q0 ?_
    refine Ol.gn q0 ?_
    refine Ol.p (pkFb q0) ?_
    refine Ol.p asb ?_
    refine Ol.nil ?_
    refine Cd.ret ⟨.bool _, ret1 rfl rfl, [], Keep.nil, congrArg Value.bool ?_, rfl⟩
    rw [e, q0]; try rfl
end
section
theorem a2_get (a b : Int) : ∀ (j : Nat) (u : Value), [Value.int .i64 a, .int .i64 b][j]? = some u → (j = 0 ∧ u = .int .i64 a) ∨ (j = 1 ∧ u = .int .i64 b) := fun j u hu => by
  match j, hu with
  | 0, hu => cases hu; exact .inl ⟨rfl, rfl⟩
  | 1, hu => cases hu; exact .inr ⟨rfl, rfl⟩
  | j + 2, hu => simp at hu
theorem tell_a2 {a b c d : Int} : ∀ (i : Nat) (u v : Value), #[Value.int .i64 a, .int .i64 b][i]? = some u → #[Value.int .i64 c, .int .i64 d][i]? = some v → Tell (.int .i64) u v := fun i u v hu hv => by
  match i, hu, hv with
  | 0, hu, hv => cases hu; cases hv; exact Tell.int
  | 1, hu, hv => cases hu; cases hv; exact Tell.int
  | i + 2, hu, _ => simp at hu
theorem tm_a2 (t : Tm) : ∀ (j : Nat) (u : Value), #[Value.int .i64 t.t0, .int .i64 t.t1].toList[j]? = some u → t.cells.toArray[0 + 2 + j]? = some u := fun j u hu => by
  rcases a2_get _ _ j u hu with ⟨rfl, rfl⟩ | ⟨rfl, rfl⟩ <;> rfl
set_option maxHeartbeats 1000000 in
theorem ref03_IsTerm_ct {w : World} {t : Tm} : Ct Tryz.prog 109 #[t.val] w (Is (.bool (isTerm t))) := by
  refine Ct.mk Tryz.func109 rfl rfl ?_
  refine Cd.seq ?_
  refine Cd.region ?_
  refine Ol.x bxg ?_
  rintro _ _ ⟨g1, rfl, rfl⟩
  refine Ol.p asb ?_
  refine Ol.nil ?_
  refine Cd.seq ?_
  refine Cd.seq ?_
  refine Cd.region ?_
  refine Ol.p (fdl fd_api_Term_0) ?_
  refine Ol.p (ld (v := .int .i64 t.kind) one_api_TermKind (Rd.blk (i := 0) rfl rfl)) ?_
  refine Ol.nil ?_
  refine Cd.block ?_   -- 0
  refine Cd.seq ?_
  refine Cd.region ?_
  refine Ol.p eqi ?_
  refine Ol.p asb ?_
  refine Ol.nil ?_
  refine Cd.cond rfl (fun h => ?_) (fun h1 => ?_)   -- $5
  · have h : t.kind = 1 := of_decide_eq_true h
    have e : isTerm t = (decide (t.a = 0) && decide (t.t1 = 0)) := by unfold isTerm noneB; simp [h]
    refine Cd.seq ?_
    cases q0 : decide (t.a = 0) with
    | true =>
      refine Cd.region ?_
      refine Ol.p (fdl fd_api_Term_1) ?_
      refine Ol.p (ld (v := .int .i64 t.a) one_int (Rd.blk (i := 0) rfl rfl)) ?_
      refine Ol.p eqi ?_
      refine Ol.p mvb ?_
      refine Ol.gp q0 (fdl fd_api_Term_2) ?_
      refine Ol.gp q0 (ixl (ix := 1) ar_A2_int) ?_
      refine Ol.gp q0 (ld (v := .int .i64 t.t1) one_int (Rd.blk (i := 0) rfl rfl)) ?_
      refine Ol.gp q0 eqi ?_
      refine Ol.p (pkTb q0) ?_
      refine Ol.p asb ?_
      refine Ol.nil ?_
      refine Cd.ret ⟨.bool _, ret1 rfl rfl, [], Keep.nil, congrArg Value.bool ?_, rfl⟩
      rw [e, q0]; try rfl
    | false =>
      refine Cd.region ?_
      refine Ol.p (fdl fd_api_Term_1) ?_
      refine Ol.p (ld (v := .int .i64 t.a) one_int (Rd.blk (i := 0) rfl rfl)) ?_
      refine Ol.p eqi ?_
      refine Ol.p mvb ?_
      refine Ol.gn q0 ?_
      refine Ol.gn q0 ?_
      refine Ol.gn q0 ?_
      refine Ol.gn q0 ?_
      refine Ol.p (pkFb q0) ?_
      refine Ol.p asb ?_
      refine Ol.nil ?_
      refine Cd.ret ⟨.bool _, ret1 rfl rfl, [], Keep.nil, congrArg Value.bool ?_, rfl⟩
      rw [e, q0]; try rfl
  have h1 : ¬ t.kind = 1 := of_decide_eq_false h1
  refine Cd.seq ?_
  refine Cd.region ?_
  refine Ol.p eqi ?_
  refine Ol.p asb ?_
  refine Ol.nil ?_
  refine Cd.cond rfl (fun h => ?_) (fun h2 => ?_)   -- $16
  · have h : t.kind = 2 := of_decide_eq_true h
    have e : isTerm t = varB t.a := by unfold isTerm; simp [h]
    refine Cd.seq ?_
    refine Cd.region ?_
    refine Ol.p (fdl fd_api_Term_1) ?_
    refine Ol.p (ld (v := .int .i64 t.a) one_int (Rd.blk (i := 0) rfl rfl)) ?_
    refine Ol.s (cl en_ref03_Var (fun M w' hh => ref03_Var_ct)) ?_
    refine Ol.p asb ?_
    refine Ol.nil ?_
    exact Cd.ret ⟨.bool _, ret1 rfl rfl, [], Keep.nil, by rw [e], rfl⟩
  have h2 : ¬ t.kind = 2 := of_decide_eq_false h2
  refine Cd.seq ?_
  refine Cd.region ?_
  refine Ol.p eqi ?_
  refine Ol.p asb ?_
  refine Ol.nil ?_
  refine Cd.cond rfl (fun h => ?_) (fun h3 => ?_)   -- $21
  · have h : t.kind = 3 := of_decide_eq_true h
    have e : isTerm t = ((bif decide (t.a = 0) then true else varB t.a) && decide (t.t0 = 0 ∧ t.t1 = 0)) := by
      unfold isTerm noneB fitsB
      cases h9 : decide (t.a = 0) <;> simp [h]
    refine Cd.seq ?_
    cases qa : decide (t.a = 0) with
    | true =>
      refine Cd.region ?_
      refine Ol.p (fdl fd_api_Term_1) ?_
      refine Ol.p (ld (v := .int .i64 t.a) one_int (Rd.blk (i := 0) rfl rfl)) ?_
      refine Ol.p eqi ?_
      refine Ol.p mvb ?_
      refine Ol.gn qa ?_
      refine Ol.gn qa ?_
      refine Ol.gn qa ?_
      refine Ol.p (pkTb qa) ?_
      refine Ol.p mvb ?_
      refine Ol.gp rfl (fdl fd_api_Term_2) ?_
      refine Ol.gp rfl (ldp (k := 0 + 2) (vs := #[.int .i64 t.t0, .int .i64 t.t1]) ag_A2_int (i := 0) rfl rfl (tm_a2 t)) ?_
      refine Ol.gp rfl (bda (cs := #[.int .i64 0, .int .i64 0]) ar_A2_int zr_A2_int (hf := by kernel_rfl)) ?_
      refine Ol.gp rfl (eqa (r := decide (t.t0 = 0 ∧ t.t1 = 0)) (xs := #[.int .i64 t.t0, .int .i64 t.t1]) (ys := #[.int .i64 0, .int .i64 0]) cm_A2_int rfl rfl tell_a2 (by simp)) ?_
      refine Ol.p (pkTb rfl) ?_
      refine Ol.p asb ?_
      refine Ol.nil ?_
      refine Cd.ret ⟨.bool _, ret1 rfl rfl, [], Keep.nil, congrArg Value.bool ?_, rfl⟩
      rw [e, qa]; rfl
    | false =>
      cases qv : varB t.a with
      | true =>
        refine Cd.region ?_
        refine Ol.p (fdl fd_api_Term_1) ?_
        refine Ol.p (ld (v := .int .i64 t.a) one_int (Rd.blk (i := 0) rfl rfl)) ?_
        refine Ol.p eqi ?_
        refine Ol.p mvb ?_
        refine Ol.gp qa (fdl fd_api_Term_1) ?_
        refine Ol.gp qa (ld (v := .int .i64 t.a) one_int (Rd.blk (i := 0) rfl rfl)) ?_
        refine Ol.gs qa (cl en_ref03_Var (fun M w' hh => ref03_Var_ct)) ?_
        refine Ol.p (pkFb qa) ?_
        refine Ol.p mvb ?_
        refine Ol.gp qv (fdl fd_api_Term_2) ?_
        refine Ol.gp qv (ldp (k := 0 + 2) (vs := #[.int .i64 t.t0, .int .i64 t.t1]) ag_A2_int (i := 0) rfl rfl (tm_a2 t)) ?_
        refine Ol.gp qv (bda (cs := #[.int .i64 0, .int .i64 0]) ar_A2_int zr_A2_int (hf := by kernel_rfl)) ?_
        refine Ol.gp qv (eqa (r := decide (t.t0 = 0 ∧ t.t1 = 0)) (xs := #[.int .i64 t.t0, .int .i64 t.t1]) (ys := #[.int .i64 0, .int .i64 0]) cm_A2_int rfl rfl tell_a2 (by simp)) ?_
        refine Ol.p (pkTb qv) ?_
        refine Ol.p asb ?_
        refine Ol.nil ?_
        refine Cd.ret ⟨.bool _, ret1 rfl rfl, [], Keep.nil, congrArg Value.bool ?_, rfl⟩
        rw [e, qa, qv]; rfl
      | false =>
        refine Cd.region ?_
        refine Ol.p (fdl fd_api_Term_1) ?_
        refine Ol.p (ld (v := .int .i64 t.a) one_int (Rd.blk (i := 0) rfl rfl)) ?_
        refine Ol.p eqi ?_
        refine Ol.p mvb ?_
        refine Ol.gp qa (fdl fd_api_Term_1) ?_
        refine Ol.gp qa (ld (v := .int .i64 t.a) one_int (Rd.blk (i := 0) rfl rfl)) ?_
        refine Ol.gs qa (cl en_ref03_Var (fun M w' hh => ref03_Var_ct)) ?_
        refine Ol.p (pkFb qa) ?_
        refine Ol.p mvb ?_
        refine Ol.gn qv ?_
        refine Ol.gn qv ?_
        refine Ol.gn qv ?_
        refine Ol.gn qv ?_
        refine Ol.p (pkFb qv) ?_
        refine Ol.p asb ?_
        refine Ol.nil ?_
        refine Cd.ret ⟨.bool _, ret1 rfl rfl, [], Keep.nil, congrArg Value.bool ?_, rfl⟩
        rw [e, qa, qv]; rfl
  have h3 : ¬ t.kind = 3 := of_decide_eq_false h3
  refine Cd.seq ?_
  refine Cd.region ?_
  refine Ol.p eqi ?_
  refine Ol.p asb ?_
  refine Ol.nil ?_
  refine Cd.cond rfl (fun h => ?_) (fun h4 => ?_)   -- $37
  · have h : t.kind = 4 := of_decide_eq_true h
    have e : isTerm t = (decide (t.a = 0) && decide (t.t0 = 0 ∧ t.t1 = 0)) := by unfold isTerm noneB; simp [h]
    refine Cd.seq ?_
    cases q0 : decide (t.a = 0) with
    | true =>
      refine Cd.region ?_
      refine Ol.p (fdl fd_api_Term_1) ?_
      refine Ol.p (ld (v := .int .i64 t.a) one_int (Rd.blk (i := 0) rfl rfl)) ?_
      refine Ol.p eqi ?_
      refine Ol.p mvb ?_
      refine Ol.gp q0 (fdl fd_api_Term_2) ?_
      refine Ol.gp q0 (ldp (k := 0 + 2) (vs := #[.int .i64 t.t0, .int .i64 t.t1]) ag_A2_int (i := 0) rfl rfl (tm_a2 t)) ?_
      refine Ol.gp q0 (bda (cs := #[.int .i64 0, .int .i64 0]) ar_A2_int zr_A2_int (hf := by kernel_rfl)) ?_
      refine Ol.gp q0 (eqa (r := decide (t.t0 = 0 ∧ t.t1 = 0)) (xs := #[.int .i64 t.t0, .int .i64 t.t1]) (ys := #[.int .i64 0, .int .i64 0]) cm_A2_int rfl rfl tell_a2 (by simp)) ?_
      refine Ol.p (pkTb q0) ?_
      refine Ol.p asb ?_
      refine Ol.nil ?_
      refine Cd.ret ⟨.bool _, ret1 rfl rfl, [], Keep.nil, congrArg Value.bool ?_, rfl⟩
      rw [e, q0]; try rfl
    | false =>
      refine Cd.region ?_
      refine Ol.p (fdl fd_api_Term_1) ?_
      refine Ol.p (ld (v := .int .i64 t.a) one_int (Rd.blk (i := 0) rfl rfl)) ?_
      refine Ol.p eqi ?_
      refine Ol.p mvb ?_
      refine Ol.gn q0 ?_
      refine Ol.gn q0 ?_
      refine Ol.gn q0 ?_
      refine Ol.gn q0 ?_
      refine Ol.p (pkFb q0) ?_
      refine Ol.p asb ?_
      refine Ol.nil ?_
      refine Cd.ret ⟨.bool _, ret1 rfl rfl, [], Keep.nil, congrArg Value.bool ?_, rfl⟩
      rw [e, q0]; try rfl
  have h4 : ¬ t.kind = 4 := of_decide_eq_false h4
  refine Cd.skip ?_
  refine Cd.seq ?_
  refine Cd.region ?_
  refine Ol.p asb ?_
  refine Ol.nil ?_
  exact Cd.ret ⟨.bool false, ret1 rfl rfl, [], Keep.nil, by unfold isTerm; simp [h1, h2, h3, h4], rfl⟩
end
section
theorem ref03_To_ct {w : World} {t : Tm} : Ct Tryz.prog 82 #[t.val] w (NewL 3 1 (toL t).length (ints (toL t))) := by
  refine Ct.mk Tryz.func82 rfl rfl ?_
  refine Cd.seq ?_
  refine Cd.region ?_
  refine Ol.x bxg ?_
  rintro _ _ ⟨g1, rfl, rfl⟩
  refine Ol.p ass ?_
  refine Ol.nil ?_
  refine Cd.seq ?_
  refine Cd.seq ?_
  refine Cd.region ?_
  refine Ol.p (ldw (cs := t.cells.toArray) ag_api_Term (i := 0) rfl rfl) ?_
  refine Ol.s (cl en_ref03_IsTerm (fun M w' hh => ref03_IsTerm_ct (t := t))) ?_
  refine Ol.p noti ?_
  refine Ol.nil ?_
  refine Cd.cond rfl (fun h => ?_) (fun h => ?_)   -- $5
  · have h0 : isTerm t = false := by simpa using h
    have e : toL t = [] := by unfold toL; rw [h0]; rfl
    rw [e]
    refine Cd.seq ?_
    refine Cd.region ?_
    refine Ol.p ass ?_
    refine Ol.nil ?_
    refine Cd.nr 3 1 ?_
    exact Cd.ret ⟨.slice none 0 0, ret1 rfl rfl, _, .sub (.cons_cons _ (.cons _ .slnil)), none, 0, rfl, rfl⟩
  have h0 : isTerm t = true := by simpa using h
  refine Cd.skip ?_
  refine Cd.seq ?_
  refine Cd.seq ?_
  refine Cd.region ?_
  refine Ol.p (fdl fd_api_Term_0) ?_
  refine Ol.p (ld (v := .int .i64 t.kind) one_api_TermKind (Rd.blk (i := 0) rfl rfl)) ?_
  refine Ol.nil ?_
  refine Cd.block ?_   -- 0
  refine Cd.seq ?_
  refine Cd.region ?_
  refine Ol.p eqi ?_
  refine Ol.p asb ?_
  refine Ol.nil ?_
  refine Cd.cond rfl (fun h1 => ?_) (fun h1 => ?_)   -- $8
  · have e : toL t = [t.t0] := by unfold toL; rw [h0, h1]; rfl
    rw [e]
    refine Cd.seq ?_
    refine Cd.region ?_
    refine Ol.p (fdl fd_api_Term_2) ?_
    refine Ol.p (ixl (ix := 0) ar_A2_int) ?_
    refine Ol.p (ld (v := .int .i64 t.t0) one_int (Rd.blk (i := 0) rfl rfl)) ?_
    refine Ol.x (bsv [.int .i64 t.t0] sl_L_int zr_int (by simp [Value.cells])) ?_
    rintro _ _ ⟨g13, rfl, rfl⟩
    refine Ol.p ass ?_
    refine Ol.nil ?_
    exact Cd.ret ⟨.slice _ _ _, ret1 rfl rfl, _, .sub (.cons_cons _ (.cons _ .slnil)), _, _, rfl, rfl⟩
  refine Cd.seq ?_
  refine Cd.region ?_
  refine Ol.p eqi ?_
  refine Ol.p asb ?_
  refine Ol.nil ?_
  refine Cd.cond rfl (fun h2 => ?_) (fun h2 => ?_)   -- $14
  · have e : toL t = [t.t0, t.t1] := by unfold toL; rw [h0, h1, h2]; rfl
    rw [e]
    refine Cd.seq ?_
    refine Cd.region ?_
    refine Ol.p (fdl fd_api_Term_2) ?_
    refine Ol.p (ixl (ix := 0) ar_A2_int) ?_
    refine Ol.p (ld (v := .int .i64 t.t0) one_int (Rd.blk (i := 0) rfl rfl)) ?_
    refine Ol.p (fdl fd_api_Term_2) ?_
    refine Ol.p (ixl (ix := 1) ar_A2_int) ?_
    refine Ol.p (ld (v := .int .i64 t.t1) one_int (Rd.blk (i := 0) rfl rfl)) ?_
    refine Ol.x (bsv [.int .i64 t.t0, .int .i64 t.t1] sl_L_int zr_int (by simp [Value.cells])) ?_
    rintro _ _ ⟨g13, rfl, rfl⟩
    refine Ol.p ass ?_
    refine Ol.nil ?_
    exact Cd.ret ⟨.slice _ _ _, ret1 rfl rfl, _, .sub (.cons_cons _ (.cons _ .slnil)), _, _, rfl, rfl⟩
  have e : toL t = [] := by unfold toL; rw [h0, h1, h2]; rfl
  rw [e]
  refine Cd.skip ?_
  refine Cd.seq ?_
  refine Cd.region ?_
  refine Ol.p ass ?_
  refine Ol.nil ?_
  refine Cd.nr 3 1 ?_
  exact Cd.ret ⟨.slice none 0 0, ret1 rfl rfl, _, .sub (.cons_cons _ (.cons _ .slnil)), none, 0, rfl, rfl⟩
end
end Go.Proofs.YtkefmjhagmacfaaGreatDoor

/- The document's answer of layer 03: instructions, walked. -/
namespace Go.Proofs.YtkefmjhagmacfaaGreatDoor
set_option linter.unusedVariables false
set_option linter.unusedSimpArgs false
open Go Go.RowKit
set_option maxRecDepth 100000

end Go.Proofs.YtkefmjhagmacfaaGreatDoor

/- What is reached from some blocks through open ones: plain Lean. -/
namespace Go.Proofs.YtkefmjhagmacfaaGreatDoor
set_option linter.unusedVariables false
open Go Go.RowKit

def toAt (ts : List Tm) (b : Nat) : List Int := match ts[b]? with
  | some t => toL t
  | none => []
theorem toAt_some {ts : List Tm} {b : Nat} {t : Tm} (h : ts[b]? = some t) : toAt ts b = toL t := by unfold toAt; rw [h]
def nextL (ts : List Tm) (s : Nat) (l : List Nat) : Nat := l.foldl (fun s b => withL s (toAt ts b)) s
def stepS (ts : List Tm) (op s : Nat) : Nat := nextL ts s (listS s) &&& op
def iterF {α : Type} (f : α → α) : Nat → α → α
  | 0, a => a
  | n + 1, a => f (iterF f n a)
def reachS (ts : List Tm) (op s : Nat) : Nat := iterF (stepS ts op) 1025 s
def Sub (s t : Nat) : Prop := ∀ i, s.testBit i = true → t.testBit i = true
theorem Sub.refl (s : Nat) : Sub s s := fun _ h => h
theorem Sub.trans {a b c : Nat} (h : Sub a b) (k : Sub b c) : Sub a c := fun i hi => k i (h i hi)
theorem Sub.eq {a b : Nat} (h : Sub a b) (k : Sub b a) : a = b := Nat.eq_of_testBit_eq fun i => by
  cases ha : a.testBit i <;> cases hb : b.testBit i <;> first | rfl | (have := h i ha; rw [hb] at this; cases this) | (have := k i hb; rw [ha] at this; cases this)
theorem Sub.sm {a b : Nat} (h : Sub a b) (hb : Sm b) : Sm a := fun n hn => by
  cases ha : a.testBit n with
  | false => rfl
  | true => have := h n ha; rw [hb n hn] at this; cases this
theorem testBit_nextL (ts : List Tm) : ∀ (l : List Nat) (s i : Nat), (nextL ts s l).testBit i = (s.testBit i || (okN i && l.any fun b => (toAt ts b).contains (i : Int)))
  | [], s, i => by simp [nextL]
  | b :: l, s, i => by
    show (nextL ts (withL s (toAt ts b)) l).testBit i = _
    rw [testBit_nextL ts l, testBit_withL, List.any_cons]
    cases s.testBit i <;> cases okN (i : Int) <;> simp
theorem sub_step {ts : List Tm} {op s : Nat} (h : Sub s op) : Sub s (stepS ts op s) := fun i hi => by
  unfold stepS
  rw [Nat.testBit_and, testBit_nextL, hi, h i hi]; rfl
theorem step_sub (ts : List Tm) (op s : Nat) : Sub (stepS ts op s) op := fun i hi => by
  unfold stepS at hi
  rw [Nat.testBit_and] at hi
  simp only [Bool.and_eq_true] at hi
  exact hi.2
/-- One is in what comes next, just if it was there, or an edge from one that was there goes to it, and it is open. -/
theorem mem_step {ts : List Tm} {op s i : Nat} (hs : Sm s) : (stepS ts op s).testBit i = true ↔ op.testBit i = true ∧ (s.testBit i = true ∨ (i < 1024 ∧ ∃ b, s.testBit b = true ∧ (i : Int) ∈ toAt ts b)) := by
  unfold stepS
  rw [Nat.testBit_and, testBit_nextL]
  simp only [Bool.and_eq_true, Bool.or_eq_true, List.any_eq_true, List.contains_iff_mem]
  constructor
  · rintro ⟨h1 | ⟨h1, b, h2, h3⟩, h4⟩
    · exact ⟨h4, .inl h1⟩
    · exact ⟨h4, .inr ⟨by rw [okN_iff] at h1; omega, b, (mem_listS.1 h2).2, h3⟩⟩
  · rintro ⟨h4, h1 | ⟨h1, b, h2, h3⟩⟩
    · exact ⟨.inl h1, h4⟩
    · refine ⟨.inr ⟨by rw [okN_iff]; omega, b, mem_listS.2 ⟨?_, h2⟩, h3⟩, h4⟩
      rcases Nat.lt_or_ge b 1024 with h | h
      · exact h
      · rw [hs b h] at h2; cases h2
theorem upto_len_mono {s t : Nat} (h : Sub s t) : ∀ n, (upto s n).length ≤ (upto t n).length
  | 0 => by simp [upto_zero]
  | n + 1 => by
    have ih := upto_len_mono h n
    rw [upto_succ, upto_succ, List.length_append, List.length_append]
    cases hs : s.testBit n with
    | false => simp; omega
    | true => rw [h n hs]; simp; omega
theorem upto_len_lt {s t i : Nat} (h : Sub s t) (h1 : s.testBit i = false) (h2 : t.testBit i = true) : ∀ n, i < n → (upto s n).length < (upto t n).length
  | 0, hn => by omega
  | n + 1, hn => by
    rw [upto_succ, upto_succ, List.length_append, List.length_append]
    by_cases he : i = n
    · subst he
      rw [h1, h2]
      have := upto_len_mono h i
      simp; omega
    · have ih := upto_len_lt h h1 h2 n (by omega)
      cases hs : s.testBit n with
      | false => simp; omega
      | true => rw [h n hs]; simp; omega
theorem listS_lt {s t : Nat} (h : Sub s t) (ht : Sm t) (hne : s ≠ t) : (listS s).length < (listS t).length := by
  have : ∃ i, s.testBit i = false ∧ t.testBit i = true := by
    apply Classical.byContradiction
    intro hc
    apply hne
    refine h.eq fun i hi => ?_
    cases hs : s.testBit i with
    | true => rfl
    | false => exact absurd ⟨i, hs, hi⟩ hc
  obtain ⟨i, h1, h2⟩ := this
  refine upto_len_lt h h1 h2 1024 ?_
  rcases Nat.lt_or_ge i 1024 with hi | hi
  · exact hi
  · rw [ht i hi] at h2; cases h2
theorem iter_fix {α : Type} {f : α → α} {a : α} {k : Nat} (h : f (iterF f k a) = iterF f k a) : ∀ m, k ≤ m → iterF f m a = iterF f k a
  | 0, hm => by rw [show k = 0 by omega]
  | m + 1, hm => by
    by_cases he : k = m + 1
    · rw [he]
    · show f (iterF f m a) = _
      rw [iter_fix h m (by omega)]; exact h
/-- The blocks, all of them. -/
def allS (n : Nat) : Nat := (List.range n).foldl (fun s (b : Nat) => withL s [(b : Int)]) 0
theorem allS_succ (n : Nat) : allS (n + 1) = withL (allS n) [(n : Int)] := by unfold allS; rw [List.range_succ, List.foldl_append, List.foldl_cons, List.foldl_nil]
theorem testBit_allS : ∀ (n i : Nat), n ≤ 1024 → (allS n).testBit i = decide (i < n)
  | 0, i, _ => by simp [allS]
  | n + 1, i, h => by
    rw [allS_succ, testBit_withL, testBit_allS n i (by omega)]
    by_cases he : i = n
    · subst he
      have : okN (i : Int) = true := by rw [okN_iff]; omega
      simp [this]
    · have h1 : ([(n : Int)].contains (i : Int)) = false := by simp; omega
      rw [h1]
      simp; omega
theorem allS_sm {n : Nat} (h : n ≤ 1024) : Sm (allS n) := fun i hi => by rw [testBit_allS n i h]; simp; omega
/-- What Reached tells. -/
def reachedF (ts : List Tm) (fr nt : List Int) : List Nat := bif closed ts then listS (reachS ts (lessL (allS ts.length) nt) (lessL (allS ts.length) nt &&& ofL fr)) else []
end Go.Proofs.YtkefmjhagmacfaaGreatDoor

/- Blocks of one's own behind a slice; the order of a walk in depth. -/
namespace Go.Proofs.YtkefmjhagmacfaaGreatDoor
set_option linter.unusedVariables false
open Go Go.RowKit

/-- A row of one's own is a block. -/
theorem Hp.unrow {w0 w : World} {B g n c e s : Nat} {M L : List Res} {xs : List Value} (h : Hp w0 B (M ++ (row (.slice (some ⟨g, 0, none⟩) n c) e s n xs :: L)) w) : ∃ cs : Array Value, cs.size = c * s ∧ cs.toList.take (n * s) = xs ∧ Hp w0 B (M ++ (blk g (.cells cs e) :: L)) w := by
  have hr : w.ownsRow 0 e s (.slice (some ⟨g, 0, none⟩) n c) n xs := h.has (row (.slice (some ⟨g, 0, none⟩) n c) e s n xs) (by simp)
  rcases hr.2 with ⟨h1, _⟩ | ⟨g', cap, cur, hv, _, hg, _, _, hs, ht⟩
  · cases h1
  · injection hv with h1 _ h3
    cases h1
    subst h3
    refine ⟨cur, hs, ht, ?_⟩
    exact Hp.set0 (r := row (.slice (some ⟨g, 0, none⟩) n c) e s n xs) (r' := blk g (.cells cur e)) h (Stp.refl _ _) hg (fun k hk => by
      have : k = g := hk
      subst this
      simp [row, Value.ownBlock])
theorem Cd.unrow {C : Ctx} {x : Code} {Q : Exit → Env → List Res → Prop} {σ : Env} {L : List Res} {g n c e s : Nat} {xs : List Value} (h : ∀ cs : Array Value, cs.size = c * s → cs.toList.take (n * s) = xs → Cd C x Q σ (blk g (.cells cs e) :: L)) : Cd C x Q σ (row (.slice (some ⟨g, 0, none⟩) n c) e s n xs :: L) := fun a w ha hs => by
  obtain ⟨cs, h1, h2, h3⟩ := Hp.unrow hs.heap
  exact h cs h1 h2 a w ha ⟨hs.size, h3⟩
theorem Ol.unrow {C : Ctx} {all : Array Oper} {l : List Oper} {K : Env → List Res → Prop} {σ : Env} {L : List Res} {g n c e s : Nat} {xs : List Value} (h : ∀ cs : Array Value, cs.size = c * s → cs.toList.take (n * s) = xs → Ol C all l K σ (blk g (.cells cs e) :: L)) : Ol C all l K σ (row (.slice (some ⟨g, 0, none⟩) n c) e s n xs :: L) := fun a w Q ha hs hq => by
  obtain ⟨cs, h1, h2, h3⟩ := Hp.unrow hs.heap
  exact h cs h1 h2 a w Q ha ⟨hs.size, h3⟩ hq
section
variable {P : Program} {w0 : World} {B : Nat} {σ : Env} {L : List Res} {d : Option Nat} {ty T : TypeId} {pos : String} {af : Array Edge} {gd : Option (Nat × Bool)} {x y z : Operand} {v : Value}
/-- An element of a slice that lies in a block that is known. -/
theorem ixo {k : IntKind} {ix n c e s b g off : Nat} (hT : SlT P T e s b) (hx : ev σ x = .slice (some ⟨g, off, none⟩) n c := by exact rfl) (hy : ev σ y = .int k (ix : Int) := by exact rfl) (h : ix < n := by omega) :
    Sd P w0 B ⟨d, .indexAddr T x y, ty, pos, af, gd⟩ σ L (.pointer (some ⟨g, off + ix * s, none⟩)) := by
  have := ixn (d := d) (ty := ty) (pos := pos) (af := af) (gd := gd) (P := P) (w0 := w0) (B := B) (L := L) hT Som.lit hx hy h
  have e1 : ap (some (⟨g, off, none⟩ : Addr)) (ix * s) = ⟨g, off + ix * s, none⟩ := by simp [ap, add_lit_]
  rwa [e1] at this
theorem ixo1 {k : IntKind} {ix n c e b g : Nat} (hT : SlT P T e 1 b) (hx : ev σ x = .slice (some ⟨g, 0, none⟩) n c := by exact rfl) (hy : ev σ y = .int k (ix : Int) := by exact rfl) (h : ix < n := by omega) :
    Sd P w0 B ⟨d, .indexAddr T x y, ty, pos, af, gd⟩ σ L (.pointer (some ⟨g, ix, none⟩)) := by
  have := ixo (d := d) (ty := ty) (pos := pos) (af := af) (gd := gd) (P := P) (w0 := w0) (B := B) (L := L) hT hx hy h
  rwa [Nat.mul_one, Nat.zero_add] at this
end
/-- What can be read of a slice, whoever is called, while L is held. -/
def RdS (w0 : World) (B : Nat) (L : List Res) (s : Nat) (A : Option Addr) (n : Nat) (xs : List Value) : Prop := ∀ M w, Hp w0 B (M ++ L) w → Reads w w.heap.size s A n xs
section
variable {w0 : World} {B s n c i : Nat} {L L' : List Res} {A : Option Addr} {xs : List Value}
theorem RdS.keep (h : RdS w0 B L s A n xs) (hk : Keep L' L) : RdS w0 B L' s A n xs := fun M w hh => h M w (hk.hp hh)
theorem RdS.nil : RdS w0 B L s A 0 [] := fun M w hh => ⟨by simp, fun h => by omega⟩
theorem RdS.blk {g k : Nat} {cs : Array Value} {e : TypeId} {fz : Nat × Nat} (hi : L[i]? = some (blk g (.cells cs e fz))) (hl : xs.length = n) (hx : ∀ j u, xs[j]? = some u → cs[k + j]? = some u) : RdS w0 B L 1 (some ⟨g, k, none⟩) n xs := fun M w hh => Reads.blk hh hi hl hx
end
/-- A slice that is handed over: in a block, from some place on; or empty. -/
def PartL (e n : Nat) (xs : List Value) : Value → List Res → Prop := fun v L => (n = 0 ∧ xs = [] ∧ v = .slice none 0 0 ∧ L = []) ∨ ∃ g k c cs, v = .slice (some ⟨g, k, none⟩) n c ∧ L = [blk g (.cells cs e)] ∧ xs.length = n ∧ ∀ j u, xs[j]? = some u → cs[k + j]? = some u
theorem slo {P : Program} {w0 : World} {B : Nat} {σ : Env} {L : List Res} {d : Option Nat} {ty T : TypeId} {pos : String} {af : Array Edge} {gd : Option (Nat × Bool)} {x y : Operand} {g off n c e s b l : Nat} {k : IntKind} (hT : SlT P T e s b) (hl : l ≤ n) (hc : l < c) (hx : ev σ x = .slice (some ⟨g, off, none⟩) n c := by exact rfl) (hy : ev σ y = .int k (l : Int) := by exact rfl) :
    Sd P w0 B ⟨d, .slice T x (some y) none none, ty, pos, af, gd⟩ σ L (.slice (some ⟨g, off + l * s, none⟩) (n - l) (c - l)) := by
  have := sll (d := d) (ty := ty) (pos := pos) (af := af) (gd := gd) (P := P) (w0 := w0) (B := B) (L := L) hT hl hx hy
  rw [if_neg (by omega)] at this
  simpa [add_lit_] using this
theorem made_ints (n : Nat) : (madeCells #[.int .i64 0] (n * 1)).toList.take (n * 1) = List.replicate n (.int .i64 0) := by
  rw [Nat.mul_one, List.take_of_length_le (by simp [madeCells])]
  apply List.ext_getElem?
  intro i
  by_cases h : i < n
  · simp [madeCells, h]
    rw [Nat.mod_one]; rfl
  · simp [madeCells, h]

/-! ### A walk in depth -/
abbrev Dst := Nat × List Nat
def dfs (ts : List Tm) : Nat → Nat → Dst → Dst
  | 0, _, st => st
  | n + 1, b, st => bif st.1.testBit b then st else
    let r := (toAt ts b).foldl (fun st t => dfs ts n t.toNat st) (withL st.1 [(b : Int)], st.2)
    (r.1, b :: r.2)
def orderF (ts : List Tm) : List Nat := bif closed ts then (dfs ts (ts.length + 1) 0 (0, [])).2 else []
def card (s n : Nat) : Nat := (upto s n).length
theorem card_le (s n : Nat) : card s n ≤ n := upto_len_le s n
theorem testBit_with1 (s b i : Nat) (hb : b < 1024) : (withL s [(b : Int)]).testBit i = (s.testBit i || decide (i = b)) := by
  rw [testBit_withL]
  by_cases h : i = b
  · subst h
    have : okN (i : Int) = true := by rw [okN_iff]; omega
    simp [this]
  · have h1 : ([(b : Int)].contains (i : Int)) = false := by simp; omega
    rw [h1]; simp [h]
theorem sub_with1 (s b : Nat) : Sub s (withL s [(b : Int)]) := fun i hi => by rw [testBit_withL, hi]; rfl
theorem card_with1 {s b n : Nat} (hb : b < n) (hn : n ≤ 1024) (h : s.testBit b = false) : card s n < card (withL s [(b : Int)]) n :=
  upto_len_lt (sub_with1 s b) h (by rw [testBit_with1 s b b (by omega)]; simp) n hb
theorem card_mono {s t n : Nat} (h : Sub s t) : card s n ≤ card t n := upto_len_mono h n
def outC (n : Nat) (acc : List Nat) : Array Value := (List.replicate (n - acc.length) (Value.int .i64 0) ++ intsN acc).toArray
theorem outC_size {n : Nat} {acc : List Nat} (h : acc.length ≤ n) : (outC n acc).size = n := by simp [outC, intsN]; omega
theorem outC_nil (n : Nat) {cs : Array Value} (h1 : cs.size = n * 1) (h2 : cs.toList.take (n * 1) = (madeCells #[.int .i64 0] (n * 1)).toList.take (n * 1)) : cs = outC n [] := by
  apply Array.ext'
  rw [made_ints, List.take_of_length_le (by simp; omega)] at h2
  rw [h2]; simp [outC, intsN]
theorem outC_cons {n b : Nat} {acc : List Nat} (h : acc.length < n) : (outC n acc).setIfInBounds (n - (acc.length + 1)) (.int .i64 (b : Int)) = outC n (b :: acc) := by
  apply Array.ext'
  unfold outC
  rw [Array.toList_setIfInBounds]
  have e : n - acc.length = (n - (acc.length + 1)) + 1 := by omega
  simp only [List.length_cons, e, List.replicate_succ', List.append_assoc]
  rw [List.set_append_right _ _ (by simp)]
  simp [intsN]
end Go.Proofs.YtkefmjhagmacfaaGreatDoor

/- Reaching and the order of blocks: plain laws. -/
namespace Go.Proofs.YtkefmjhagmacfaaGreatDoor
set_option linter.unusedVariables false
set_option maxRecDepth 10000
open Go Go.RowKit

/-- A way from a to b. -/
inductive Rc (ts : List Tm) (a : Nat) : Nat → Prop
  | refl : Rc ts a a
  | step {b c : Nat} : Rc ts a b → (c : Int) ∈ toAt ts b → Rc ts a c
theorem Rc.trans {ts : List Tm} {a b c : Nat} (h : Rc ts a b) (k : Rc ts b c) : Rc ts a c := by
  induction k with
  | refl => exact h
  | step _ h2 ih => exact .step ih h2
theorem Rc.one {ts : List Tm} {a b : Nat} (h : (b : Int) ∈ toAt ts a) : Rc ts a b := .step .refl h
theorem iterF_sub {ts : List Tm} {op s : Nat} (h : Sub s op) : ∀ k, Sub (iterF (stepS ts op) k s) op
  | 0 => h
  | k + 1 => step_sub _ _ _
theorem reach_fix {ts : List Tm} {op s : Nat} (h : Sub s op) (hop : Sm op) : stepS ts op (reachS ts op s) = reachS ts op s := by
  have key : ∀ k, (∃ j, j ≤ k ∧ stepS ts op (iterF (stepS ts op) j s) = iterF (stepS ts op) j s) ∨ k ≤ (listS (iterF (stepS ts op) k s)).length := by
    intro k
    induction k with
    | zero => exact .inr (Nat.zero_le _)
    | succ k ih =>
      rcases ih with ⟨j, hj, hf⟩ | ih
      · exact .inl ⟨j, by omega, hf⟩
      · by_cases he : stepS ts op (iterF (stepS ts op) k s) = iterF (stepS ts op) k s
        · exact .inl ⟨k, by omega, he⟩
        · right
          have hs := sub_step (ts := ts) (iterF_sub (ts := ts) h k)
          have := listS_lt hs ((step_sub ts op _).sm hop) (fun e => he e.symm)
          show k + 1 ≤ (listS (stepS ts op (iterF (stepS ts op) k s))).length
          omega
  unfold reachS
  rcases key 1025 with ⟨j, hj, hf⟩ | hl
  · rw [iter_fix hf 1025 hj]; exact hf
  · have := listS_len_le (iterF (stepS ts op) 1025 s)
    omega
theorem reach_sub_ {ts : List Tm} {op s : Nat} (h : Sub s op) : Sub s (reachS ts op s) := by
  unfold reachS
  have : ∀ k, Sub s (iterF (stepS ts op) k s) := by
    intro k
    induction k with
    | zero => exact Sub.refl s
    | succ k ih => exact ih.trans (sub_step (iterF_sub h k))
  exact this _
/-- What is reached: what a way goes to. -/
theorem mem_reach {ts : List Tm} {op s : Nat} (h : Sub s op) (hop : Sm op) (hall : ∀ b c : Nat, (c : Int) ∈ toAt ts b → op.testBit c = true) (i : Nat) : (reachS ts op s).testBit i = true ↔ ∃ a, s.testBit a = true ∧ Rc ts a i := by
  constructor
  · intro hi
    have : ∀ k i, (iterF (stepS ts op) k s).testBit i = true → ∃ a, s.testBit a = true ∧ Rc ts a i := by
      intro k
      induction k with
      | zero => intro i hi; exact ⟨i, hi, .refl⟩
      | succ k ih =>
        intro i hi
        have hi : (stepS ts op (iterF (stepS ts op) k s)).testBit i = true := hi
        rw [mem_step ((iterF_sub h k).sm hop)] at hi
        rcases hi.2 with h1 | ⟨_, b, hb, hc⟩
        · exact ih i h1
        · obtain ⟨a, ha, hr⟩ := ih b hb
          exact ⟨a, ha, .step hr hc⟩
    exact this _ i hi
  · rintro ⟨a, ha, hr⟩
    induction hr with
    | refl => exact reach_sub_ h a ha
    | @step b c _ hc ih =>
      have hsm : Sm (reachS ts op s) := Sub.sm (iterF_sub (ts := ts) h 1025) hop
      rw [← reach_fix h hop, mem_step hsm]
      have hopc := hall b c hc
      refine ⟨hopc, .inr ⟨?_, b, ih, hc⟩⟩
      rcases Nat.lt_or_ge c 1024 with hl | hl
      · exact hl
      · rw [hop c hl] at hopc; cases hopc
theorem toAt_lt {ts : List Tm} (hc : closed ts = true) {b : Nat} {t : Int} (h : t ∈ toAt ts b) : 0 ≤ t ∧ t < ts.length ∧ b < ts.length := by
  unfold toAt at h
  split at h
  · rename_i u hu
    obtain ⟨j, hj⟩ := List.mem_iff_getElem?.1 h
    have hm : (⟨(b : Int), (j : Int), t⟩ : Ed) ∈ edges ts := mem_edges.2 ⟨b, j, u, hu, hj, rfl, rfl⟩
    unfold closed at hc
    simp only [Bool.and_eq_true, decide_eq_true_eq, List.all_eq_true] at hc
    have := hc.1.1 _ hm
    exact ⟨this.1, this.2, (List.getElem?_eq_some_iff.1 hu).1⟩
  · cases h
theorem closed_le {ts : List Tm} (hc : closed ts = true) : 0 < ts.length ∧ ts.length ≤ 200 := by
  unfold closed at hc
  simp only [Bool.and_eq_true, decide_eq_true_eq] at hc
  exact ⟨hc.1.2, hc.2⟩
/-- What Reached tells, no block shut. -/
theorem mem_reachedF {ts : List Tm} {fr : List Int} (hc : closed ts = true) (i : Nat) : i ∈ reachedF ts fr [] ↔ ∃ a : Nat, a < ts.length ∧ (a : Int) ∈ fr ∧ Rc ts a i := by
  have hl := (closed_le hc).2
  unfold reachedF
  rw [hc, cond_true, mem_listS]
  have hop : lessL (allS ts.length) [] = allS ts.length := rfl
  rw [hop]
  have hsub : Sub (allS ts.length &&& ofL fr) (allS ts.length) := fun i hi => by
    rw [Nat.testBit_and] at hi
    simp only [Bool.and_eq_true] at hi
    exact hi.1
  have hall : ∀ b c : Nat, (c : Int) ∈ toAt ts b → (allS ts.length).testBit c = true := fun b c h => by
    rw [testBit_allS _ _ (by omega)]
    have := toAt_lt hc h
    simp; omega
  rw [mem_reach hsub (allS_sm (by omega)) hall]
  constructor
  · rintro ⟨_, a, ha, hr⟩
    rw [Nat.testBit_and, testBit_allS _ _ (by omega), testBit_ofL] at ha
    simp only [Bool.and_eq_true, decide_eq_true_eq, List.contains_iff_mem] at ha
    exact ⟨a, ha.1, ha.2.2, hr⟩
  · rintro ⟨a, h1, h2, hr⟩
    refine ⟨?_, a, ?_, hr⟩
    · cases hr with
      | refl => omega
      | step _ h => have := toAt_lt hc h; omega
    · rw [Nat.testBit_and, testBit_allS _ _ (by omega), testBit_ofL]
      have : okN (a : Int) = true := by rw [okN_iff]; omega
      simp [this, h1, h2]
/-! ### The walk in depth -/
def After (l : List Nat) (x y : Nat) : Prop := ∃ p q, l = p ++ x :: q ∧ y ∈ q
theorem After.more {l : List Nat} {x y : Nat} (h : After l x y) (r : List Nat) : After (r ++ l) x y := by
  obtain ⟨p, q, rfl, hy⟩ := h
  exact ⟨r ++ p, q, by simp, hy⟩
structure DPre (ts : List Tm) (b : Nat) (st : Dst) : Prop where
  sm : Sm st.1
  acc : ∀ y ∈ st.2, st.1.testBit y = true
  nd : st.2.Nodup
  gray : ∀ y, st.1.testBit y = true → y ∈ st.2 ∨ Rc ts y b
structure DPost (ts : List Tm) (b : Nat) (st : Dst) (r : Dst) (nl : List Nat) : Prop where
  eq : r.2 = nl ++ st.2
  seen : ∀ i, r.1.testBit i = true ↔ st.1.testBit i = true ∨ i ∈ nl
  sm : Sm r.1
  nd : (nl ++ st.2).Nodup
  new : ∀ x ∈ nl, Rc ts b x ∧ st.1.testBit x = false ∧ x < ts.length
  next : ∀ x ∈ nl, ∀ y : Nat, (y : Int) ∈ toAt ts x → r.1.testBit y = true ∧ (After (nl ++ st.2) x y ∨ Rc ts y x)
theorem fold_spec {ts : List Tm} (hc : closed ts = true) {fuel b : Nat} (ih : ∀ (b : Nat) (st : Dst), b < ts.length → ts.length - card st.1 ts.length < fuel → DPre ts b st → ∃ new, DPost ts b st (dfs ts fuel b st) new ∧ (dfs ts fuel b st).1.testBit b = true) :
    ∀ (l : List Int) (st : Dst), (∀ t ∈ l, t ∈ toAt ts b) → ts.length - card st.1 ts.length < fuel → DPre ts b st → ∃ new, DPost ts b st (l.foldl (fun st t => dfs ts fuel t.toNat st) st) new ∧ ∀ t : Nat, (t : Int) ∈ l → (l.foldl (fun st t => dfs ts fuel t.toNat st) st).1.testBit t = true
  | [], st, _, _, h => ⟨[], ⟨rfl, fun i => by simp, h.sm, h.nd, fun x h => (by cases h), fun x h => (by cases h)⟩, fun t h => (by cases h)⟩
  | t :: l, st, hl, hf, h => by
    have htm := hl t (by simp)
    have htl := toAt_lt hc htm
    have hcast : ((t.toNat : Nat) : Int) = t := by omega
    obtain ⟨n1, p1, q1⟩ := ih t.toNat st (by omega) hf ⟨h.sm, h.acc, h.nd, fun y hy => (h.gray y hy).imp id fun hr => .step hr (by rw [hcast]; exact htm)⟩
    obtain ⟨st1, hst1⟩ : ∃ st1, st1 = dfs ts fuel t.toNat st := ⟨_, rfl⟩
    rw [← hst1] at p1 q1
    have hmono : card st.1 ts.length ≤ card st1.1 ts.length := card_mono fun i hi => (p1.seen i).2 (.inl hi)
    obtain ⟨n2, p2, q2⟩ := fold_spec hc ih l st1 (fun t ht => hl t (by simp [ht])) (by omega)
      ⟨p1.sm, fun y hy => by
        rw [p1.eq, List.mem_append] at hy
        exact (p1.seen y).2 (hy.elim .inr fun h2 => .inl (h.acc y h2)), by rw [p1.eq]; exact p1.nd, fun y hy => by
        rw [p1.eq, List.mem_append]
        rcases (p1.seen y).1 hy with h2 | h2
        · rcases h.gray y h2 with h3 | h3
          · exact .inl (.inr h3)
          · exact .inr h3
        · exact .inl (.inl h2)⟩
    have e : (t :: l).foldl (fun st t => dfs ts fuel t.toNat st) st = l.foldl (fun st t => dfs ts fuel t.toNat st) st1 := by rw [hst1]; rfl
    rw [e]
    have eq2 : n2 ++ st1.2 = n2 ++ n1 ++ st.2 := by rw [p1.eq]; simp
    refine ⟨n2 ++ n1, ⟨by rw [p2.eq, eq2], fun i => by rw [p2.seen, p1.seen, List.mem_append]; exact ⟨fun h => by rcases h with (h | h) | h <;> simp [h], fun h => by rcases h with h | h | h <;> simp [h]⟩, p2.sm, by rw [← eq2]; exact p2.nd, fun x hx => ?_, fun x hx y hy => ?_⟩, fun u hu => ?_⟩
    · rcases List.mem_append.1 hx with hx | hx
      · obtain ⟨h1, h2, h3⟩ := p2.new x hx
        refine ⟨h1, ?_, h3⟩
        cases h4 : st.1.testBit x with
        | false => rfl
        | true => rw [(p1.seen x).2 (.inl h4)] at h2; cases h2
      · obtain ⟨h1, h2, h3⟩ := p1.new x hx
        exact ⟨(Rc.one (by rw [hcast]; exact htm)).trans h1, h2, h3⟩
    · rw [← eq2]
      rcases List.mem_append.1 hx with hx | hx
      · exact p2.next x hx y hy
      · obtain ⟨h1, h2⟩ := p1.next x hx y hy
        refine ⟨(p2.seen y).2 (.inl h1), h2.imp (fun h3 => ?_) id⟩
        rw [p1.eq]; exact h3.more n2
    · rcases List.mem_cons.1 hu with hu | hu
      · subst hu
        exact (p2.seen u).2 (.inl (by simpa using q1))
      · exact q2 u hu
theorem dfs_spec {ts : List Tm} (hc : closed ts = true) : ∀ (fuel b : Nat) (st : Dst), b < ts.length → ts.length - card st.1 ts.length < fuel → DPre ts b st → ∃ new, DPost ts b st (dfs ts fuel b st) new ∧ (dfs ts fuel b st).1.testBit b = true := by
  intro fuel
  induction fuel with
  | zero => intro b st _ h; omega
  | succ fuel ih =>
    intro b st hb hf h
    have hl := (closed_le hc).2
    cases hs : st.1.testBit b with
    | true =>
      have e : dfs ts (fuel + 1) b st = st := by simp only [dfs, hs, cond_true]
      rw [e]
      exact ⟨[], ⟨rfl, fun i => by simp, h.sm, h.nd, fun x h => (by cases h), fun x h => (by cases h)⟩, hs⟩
    | false =>
      obtain ⟨s1, hs1⟩ : ∃ s1, s1 = withL st.1 [(b : Int)] := ⟨_, rfl⟩
      have hbit : ∀ i, s1.testBit i = true ↔ st.1.testBit i = true ∨ i = b := fun i => by rw [hs1, testBit_with1 _ _ _ (by omega)]; simp
      have hgrow : card st.1 ts.length < card s1 ts.length := by rw [hs1]; exact card_with1 hb (by omega) hs
      have hcl := card_le s1 ts.length
      obtain ⟨nw, p, q⟩ := fold_spec hc (b := b) ih (toAt ts b) (s1, st.2) (fun t h => h) (by show ts.length - card s1 ts.length < fuel; omega)
        ⟨by rw [hs1]; exact withL_sm h.sm, fun y hy => (hbit y).2 (.inl (h.acc y hy)), h.nd, fun y hy => by
          rcases (hbit y).1 hy with h1 | rfl
          · exact h.gray y h1
          · exact .inr .refl⟩
      obtain ⟨r, hr⟩ : ∃ r, r = (toAt ts b).foldl (fun st t => dfs ts fuel t.toNat st) (s1, st.2) := ⟨_, rfl⟩
      have e : dfs ts (fuel + 1) b st = (r.1, b :: r.2) := by simp only [dfs, hs, cond_false, hr, hs1]
      rw [← hr] at p q
      rw [e]
      have hbs : r.1.testBit b = true := (p.seen b).2 (.inl ((hbit b).2 (.inr rfl)))
      have hbn : b ∉ nw := fun hm => by
        have := (p.new b hm).2.1
        rw [(hbit b).2 (.inr rfl)] at this; cases this
      have hba : b ∉ st.2 := fun hm => by rw [h.acc b hm] at hs; cases hs
      refine ⟨b :: nw, ⟨by rw [p.eq]; rfl, fun i => by
        rw [p.seen, hbit, List.mem_cons]
        exact or_assoc, p.sm, by
        rw [List.cons_append, List.nodup_cons, List.mem_append]
        exact ⟨fun h => h.elim hbn hba, p.nd⟩, fun x hx => ?_, fun x hx y hy => ?_⟩, hbs⟩
      · rcases List.mem_cons.1 hx with rfl | hx
        · exact ⟨.refl, hs, hb⟩
        · obtain ⟨h1, h2, h3⟩ := p.new x hx
          refine ⟨h1, ?_, h3⟩
          cases h4 : st.1.testBit x with
          | false => rfl
          | true => rw [(hbit x).2 (.inl h4)] at h2; cases h2
      · rcases List.mem_cons.1 hx with rfl | hx
        · have hy1 := q y hy
          refine ⟨hy1, ?_⟩
          rcases (p.seen y).1 hy1 with h1 | h1
          · rcases (hbit y).1 h1 with h2 | rfl
            · rcases h.gray y h2 with h3 | h3
              · exact .inl ⟨[], nw ++ st.2, rfl, List.mem_append_right _ h3⟩
              · exact .inr h3
            · exact .inr .refl
          · exact .inl ⟨[], nw ++ st.2, rfl, List.mem_append_left _ h1⟩
        · obtain ⟨h1, h2⟩ := p.next x hx y hy
          exact ⟨h1, h2.imp (fun h3 => h3.more [b]) id⟩

theorem nodup_le : ∀ (l m : List Nat), l.Nodup → (∀ x ∈ l, x ∈ m) → l.length ≤ m.length
  | [], m, _, _ => Nat.zero_le _
  | x :: l, m, hn, h => by
    rw [List.nodup_cons] at hn
    have hx := h x (by simp)
    have := nodup_le l (m.erase x) hn.2 fun y hy => (List.mem_erase_of_ne (fun e => hn.1 (by subst e; exact hy))).2 (h y (by simp [hy]))
    rw [List.length_erase_of_mem hx] at this
    have : 0 < m.length := List.length_pos_of_mem hx
    simp only [List.length_cons]
    omega
theorem order_spec {ts : List Tm} (hc : closed ts = true) : ∃ r nw, r = dfs ts (ts.length + 1) 0 (0, []) ∧ orderF ts = nw ∧ DPost ts 0 (0, []) r nw ∧ r.1.testBit 0 = true := by
  obtain ⟨nw, p, q⟩ := dfs_spec hc (ts.length + 1) 0 (0, []) (closed_le hc).1 (by omega) ⟨fun n _ => by simp, fun y h => (by cases h), List.nodup_nil, fun y h => by simp at h⟩
  refine ⟨_, nw, rfl, ?_, p, q⟩
  unfold orderF
  rw [hc, cond_true, p.eq]
  simp
theorem order_nodup {ts : List Tm} (hc : closed ts = true) : (orderF ts).Nodup := by
  obtain ⟨r, nw, _, e, p, _⟩ := order_spec hc
  rw [e]; simpa using p.nd
theorem order_edge {ts : List Tm} (hc : closed ts = true) {a y : Nat} (ha : a ∈ orderF ts) (hy : (y : Int) ∈ toAt ts a) : y ∈ orderF ts ∧ (After (orderF ts) a y ∨ Rc ts y a) := by
  obtain ⟨r, nw, _, e, p, _⟩ := order_spec hc
  rw [e] at ha ⊢
  obtain ⟨h1, h2⟩ := p.next a ha y hy
  exact ⟨by simpa using (p.seen y).1 h1, by simpa using h2⟩
theorem order_mem {ts : List Tm} (hc : closed ts = true) (i : Nat) : i ∈ orderF ts ↔ Rc ts 0 i := by
  obtain ⟨r, nw, _, e, p, q⟩ := order_spec hc
  constructor
  · intro h
    rw [e] at h
    exact (p.new i h).1
  · intro h
    induction h with
    | refl => rw [e]; simpa using (p.seen 0).1 q
    | step _ h2 ih => exact (order_edge hc ih h2).1
theorem dfs_head {ts : List Tm} {k b : Nat} {st : Dst} (h : st.1.testBit b = false) : ∃ r : Dst, dfs ts (k + 1) b st = (r.1, b :: r.2) :=
  ⟨(toAt ts b).foldl (fun st t => dfs ts k t.toNat st) (withL st.1 [(b : Int)], st.2), by simp only [dfs, h, cond_false]⟩
theorem order_head {ts : List Tm} (hc : closed ts = true) : ∃ t, orderF ts = 0 :: t := by
  obtain ⟨r, hr⟩ := dfs_head (ts := ts) (k := ts.length) (b := 0) (st := (0, [])) (by simp)
  refine ⟨r.2, ?_⟩
  unfold orderF
  rw [hc, cond_true, hr]
/-! places -/
def placeI (l : List Int) (n : Int) : Int := match l.findIdx? (fun x => decide (x = n)) with
  | some i => (i : Int)
  | none => -1
end Go.Proofs.YtkefmjhagmacfaaGreatDoor

/- Plain laws behind ir.Right: edges that go to blocks, a search that reaches what can be reached. -/
namespace Go.Proofs.YtkefmjhagmacfaaGreatDoor
set_option linter.unusedVariables false
open Go Go.RowKit

/-- All edges go to blocks, none to the first. -/
def okEs (ts : List Tm) : Bool := ts.all fun t => (toL t).all fun n => decide (1 ≤ n) && decide (n < (ts.length : Int))
def setB (S : Nat → Bool) (x : Nat) : Nat → Bool := fun i => if i = x then true else S i
def cntB (n : Nat) (S : Nat → Bool) : Nat := ((List.range n).filter S).length
theorem cntB_le (n : Nat) (S : Nat → Bool) : cntB n S ≤ n := by
  unfold cntB
  have := List.length_filter_le S (List.range n)
  simpa using this
/-- A search by a queue: what has been seen, what is to do. -/
structure Bfs (ts : List Tm) (S : Nat → Bool) (todo : List Nat) : Prop where
  s : ∀ i, S i = true → i < ts.length ∧ Rc ts 0 i
  t : ∀ i ∈ todo, i < ts.length ∧ Rc ts 0 i
  z : S 0 = true ∨ 0 ∈ todo
  e : ∀ a, S a = true → ∀ b : Nat, (b : Int) ∈ toAt ts a → S b = true ∨ b ∈ todo
def boolsL (n : Nat) (S : Nat → Bool) : List Value := (List.range n).map fun i => .bool (S i)
theorem boolsL_len (n : Nat) (S : Nat → Bool) : (boolsL n S).length = n := by simp [boolsL]
theorem boolsL_get {n i : Nat} {S : Nat → Bool} (h : i < n) : (boolsL n S)[i]? = some (.bool (S i)) := by simp [boolsL, h]
theorem made_bools (n : Nat) : (madeCells #[.bool false] (n * 1)).toList.take (n * 1) = boolsL n fun _ => false := by
  rw [Nat.mul_one, List.take_of_length_le (by simp [madeCells])]
  apply List.ext_getElem?
  intro i
  by_cases h : i < n
  · simp [madeCells, boolsL, h]
    rw [Nat.mod_one]; rfl
  · simp [madeCells, boolsL, h]
/-- Where an end may go, as naturals. -/
def toN (t : Tm) : List Nat := (toL t).map Int.toNat
end Go.Proofs.YtkefmjhagmacfaaGreatDoor

/- A region whose order is drawn, in which an operation may take what another one made, or what was there (tokens), and turn it: one walk serves every order. -/
namespace Go.Proofs.YtkefmjhagmacfaaGreatDoor
set_option linter.unusedVariables false
open Go Go.RowKit

def liveT (tk : Nat → Option Nat) (E : List Nat) : List Nat := E.filter fun c => !(E.any fun k => decide (tk k = some c))
theorem mem_liveT {tk : Nat → Option Nat} {E : List Nat} {c : Nat} : c ∈ liveT tk E ↔ c ∈ E ∧ ∀ k ∈ E, tk k ≠ some c := by
  unfold liveT
  simp [List.mem_filter]
def WkT (C : Ctx) (all : Array Oper) (ex : Nat → Option (Value → List Res → Prop)) (nd : Nat → List Nat) (tk : Nat → Option Nat) (u : Got) (L0 : List Res) : Nat → List Oper → Env → List Nat → (Env → List Nat → Prop) → Prop
  | _, [], σ, E, K => K σ E
  | k, o :: rest, σ, E, K =>
    bif wants all σ o then
      (∀ c ∈ nd k, c ∈ liveT tk E) ∧ okDst C.N o.dst = true ∧
      match ex k with
      | some V => Sp C.P C.w0 C.B o σ (needs u (nd k) L0) (Adds V (needs u ((nd k).filter fun c => !decide (tk k = some c)) L0)) ∧ WkT C all ex nd tk u L0 (k + 1) rest (updO σ o.dst (u k).1) (k :: E) K
      | none => ∃ v, Sd C.P C.w0 C.B o σ (needs u (nd k) L0) v ∧ WkT C all ex nd tk u L0 (k + 1) rest (updO σ o.dst v) E K
    else okDst C.N o.dst = true ∧ WkT C all ex nd tk u L0 (k + 1) rest (updO σ o.dst undef) E K
def StepT (C : Ctx) (all : Array Oper) (ex : Nat → Option (Value → List Res → Prop)) (nd : Nat → List Nat) (tk : Nat → Option Nat) (u : Got) (L0 : List Res) (k : Nat) (o : Oper) (σ : Env) (E : List Nat) (v : Value) : Prop :=
  okDst C.N o.dst = true ∧
  ((wants all σ o = true ∧ (∀ c ∈ nd k, c ∈ liveT tk E) ∧ ((∃ V, ex k = some V ∧ v = (u k).1 ∧ Sp C.P C.w0 C.B o σ (needs u (nd k) L0) (Adds V (needs u ((nd k).filter fun c => !decide (tk k = some c)) L0))) ∨ (ex k = none ∧ Sd C.P C.w0 C.B o σ (needs u (nd k) L0) v))) ∨
   (wants all σ o = false ∧ v = undef))
theorem WkT.vals {C : Ctx} {all : Array Oper} {ex : Nat → Option (Value → List Res → Prop)} {nd : Nat → List Nat} {tk : Nat → Option Nat} {u : Got} {L0 : List Res} {K : Env → List Nat → Prop} :
    ∀ (l : List Oper) (k : Nat) (σ : Env) (E : List Nat), WkT C all ex nd tk u L0 k l σ E K →
      ∃ vs : List Value, vs.length = l.length ∧ (∀ i o v, l[i]? = some o → vs[i]? = some v → StepT C all ex nd tk u L0 (k + i) o (envAt (l.take i) (vs.take i) σ) (exAt all ex k (l.take i) (vs.take i) σ E) v) ∧ K (envAt l vs σ) (exAt all ex k l vs σ E)
  | [], k, σ, E, h => ⟨[], rfl, fun i o v h => by simp at h, h⟩
  | o :: l, k, σ, E, h => by
    have key : ∀ v E', StepT C all ex nd tk u L0 k o σ E v → E' = made all ex k o σ E → WkT C all ex nd tk u L0 (k + 1) l (updO σ o.dst v) E' K →
        ∃ vs : List Value, vs.length = (o :: l).length ∧ (∀ i o' v, (o :: l)[i]? = some o' → vs[i]? = some v → StepT C all ex nd tk u L0 (k + i) o' (envAt ((o :: l).take i) (vs.take i) σ) (exAt all ex k ((o :: l).take i) (vs.take i) σ E) v) ∧ K (envAt (o :: l) vs σ) (exAt all ex k (o :: l) vs σ E) := by
      rintro v E' hs rfl hw
      obtain ⟨vs, h1, h2, h3⟩ := WkT.vals l (k + 1) _ _ hw
      refine ⟨v :: vs, by simp [h1], ?_, h3⟩
      intro i o' v' hi hv
      cases i with
      | zero =>
        simp only [List.getElem?_cons_zero, Option.some.injEq] at hi hv
        subst hi; subst hv
        exact hs
      | succ i =>
        have := h2 i o' v' (by simpa using hi) (by simpa using hv)
        rw [show k + 1 + i = k + (i + 1) from by omega] at this
        exact this
    unfold WkT at h
    cases hw : wants all σ o with
    | true =>
      simp only [hw, cond_true] at h
      obtain ⟨hn, hd, h⟩ := h
      cases hx : ex k with
      | some V =>
        simp only [hx] at h
        exact key (u k).1 (k :: E) ⟨hd, .inl ⟨hw, hn, .inl ⟨V, hx, rfl, h.1⟩⟩⟩ (by simp [made, hw, hx]) h.2
      | none =>
        simp only [hx] at h
        obtain ⟨v, hs, h⟩ := h
        exact key v E ⟨hd, .inl ⟨hw, hn, .inr ⟨hx, hs⟩⟩⟩ (by simp [made, hx]) h
    | false =>
      simp only [hw, cond_false] at h
      exact key undef E ⟨h.1, .inr ⟨hw, rfl⟩⟩ (by simp [made, hw]) h.2

/-! ### What must be so: a closed test -/
def drawOkT (ops : Array Oper) (m : Nat) (nd : Nat → List Nat) (tk : Nat → Option Nat) (E0 : List Nat) : Bool :=
  let b := bef ops
  drawOk ops m (fun k => (nd k).filter fun c => Nat.blt c 1000) && Nat.ble ops.size 1000 && (E0.eraseDups.length == E0.length) && E0.all (fun c => Nat.ble 1000 c && (tk c).isNone) &&
  (List.range m).all fun k => ((nd k).eraseDups.length == (nd k).length) && (nd k).all (fun c => Nat.blt c 1000 || E0.contains c) &&
    match tk k with
    | none => true
    | some c => (nd k).contains c && !(Nat.beq c k) && (List.range m).all fun j => Nat.beq j k || !(nd j).contains c || (Nat.blt j k && (b.getD k 0).testBit j)
structure OkT (ops : Array Oper) (m : Nat) (nd : Nat → List Nat) (tk : Nat → Option Nat) (E0 : List Nat) : Prop where
  ok : Ok ops m (fun k => (nd k).filter fun c => Nat.blt c 1000)
  big : ops.size ≤ 1000
  e0 : E0.Nodup
  tok : ∀ c ∈ E0, 1000 ≤ c ∧ tk c = none
  nodu : ∀ k, k < m → (nd k).Nodup
  has : ∀ k, k < m → ∀ c ∈ nd k, c < 1000 ∨ c ∈ E0
  tak : ∀ k, k < m → ∀ c, tk k = some c → c ∈ nd k ∧ c ≠ k ∧ ∀ j, j < m → j ≠ k → c ∈ nd j → j < k ∧ Anc ops k j
theorem OkT.mk' {ops : Array Oper} {m : Nat} {nd : Nat → List Nat} {tk : Nat → Option Nat} {E0 : List Nat} (h : drawOkT ops m nd tk E0 = true) : OkT ops m nd tk E0 := by
  unfold drawOkT at h
  simp only [Bool.and_eq_true, List.all_eq_true, beq_iff_eq, List.mem_range] at h
  obtain ⟨⟨⟨⟨h1, h2⟩, h3⟩, h4⟩, h5⟩ := h
  have blt_lt : ∀ {a b : Nat}, Nat.blt a b = true → a < b := fun h => Nat.le_of_ble_eq_true h
  refine ⟨Ok.mk' h1, Nat.le_of_ble_eq_true h2, eraseDups_nodup h3, fun c hc => ⟨Nat.le_of_ble_eq_true (h4 c hc).1, by simpa using (h4 c hc).2⟩, fun k hk => eraseDups_nodup (h5 k hk).1.1, fun k hk c hc => ?_, fun k hk c hc => ?_⟩
  · have := (h5 k hk).1.2 c hc
    simp only [Bool.or_eq_true, List.contains_eq_mem, decide_eq_true_eq] at this
    exact this.imp blt_lt id
  · have := (h5 k hk).2
    rw [hc] at this
    simp only [Bool.and_eq_true, List.contains_eq_mem, decide_eq_true_eq, List.all_eq_true, List.mem_range, Bool.or_eq_true, Bool.not_eq_true', decide_eq_false_iff_not] at this
    obtain ⟨⟨h6, h7⟩, h8⟩ := this
    refine ⟨h6, fun e => ?_, fun j hj hne hcj => ?_⟩
    · subst e
      simp [Nat.beq_refl] at h7
    · rcases h8 j hj with (h9 | h9) | h9
      · exact absurd (Nat.eq_of_beq_eq_true h9) hne
      · exact absurd hcj h9
      · exact ⟨blt_lt h9.1, bef_anc h9.2⟩

/-! ### Every order -/
section
variable {C : Ctx} {l : List Oper} {m : Nat} {nd : Nat → List Nat} {tk : Nat → Option Nat} {E0 : List Nat} {ex : Nat → Option (Value → List Res → Prop)} {σ : Env} {L0 : List Res} {K : Env → List Nat → Prop}
structure GoodT (C : Ctx) (l : List Oper) (m : Nat) (ex : Nat → Option (Value → List Res → Prop)) (nd : Nat → List Nat) (tk : Nat → Option Nat) (E0 : List Nat) (L0 : List Res) (σ : Env) (K : Got → Env → List Nat → Prop) (u : Got) (vs : List Value) : Prop where
  len : vs.length = (l.take m).length
  step : ∀ (i : Nat) (o : Oper) (v : Value), (l.take m)[i]? = some o → vs[i]? = some v → StepT C l.toArray ex nd tk u L0 i o (envAt ((l.take m).take i) (vs.take i) σ) (exAt l.toArray ex 0 ((l.take m).take i) (vs.take i) σ E0) v
  fin : K u (envAt (l.take m) vs σ) (exAt l.toArray ex 0 (l.take m) vs σ E0)
structure MidT (C : Ctx) (l : List Oper) (m : Nat) (ex : Nat → Option (Value → List Res → Prop)) (nd : Nat → List Nat) (tk : Nat → Option Nat) (E0 : List Nat) (L0 : List Res) (σ : Env) (K : Got → Env → List Nat → Prop) (listed : Array Bool) (u : Got) (Ex : List Nat) (a : Act) (w : World) : Prop where
  size : a.tmps.size = C.N
  valid : Valid ex u
  nodup : Ex.Nodup
  sub : ∀ c ∈ Ex, (c < m ∧ Ls listed c) ∨ c ∈ E0
  old : ∀ c ∈ E0, c ∈ Ex
  base : ∀ t, (∀ (j : Nat) (o : Oper), j < m → l[j]? = some o → Ls listed j → o.dst ≠ some t) → a.tmps.getD t undef = σ t
  vals : ∀ u', Valid ex u' → (∀ c ∈ Ex, u' c = u c) → ∀ vs, GoodT C l m ex nd tk E0 L0 σ K u' vs → ∀ (j : Nat) (o : Oper) (v : Value), j < m → l[j]? = some o → vs[j]? = some v → Ls listed j →
    (∀ t, o.dst = some t → a.tmps.getD t undef = v) ∧ (j ∈ Ex ↔ j ∈ exAt l.toArray ex 0 (l.take m) vs σ E0)
  heap : Hp C.w0 C.B (hid C a ++ needs u (liveT tk Ex) L0) w
theorem MidT.read {Kk : Got → Env → List Nat → Prop} {listed : Array Bool} {u : Got} {Ex : List Nat} {a : Act} {w : World} (ok : OkT l.toArray m nd tk E0) (h : MidT C l m ex nd tk E0 L0 σ Kk listed u Ex a w) (hc : Shut l.toArray listed) {i : Nat} (hi : i ∈ Region.ready .any l.toArray listed) (him : i < m) {o : Oper} (ho : l[i]? = some o)
    {u' : Got} (hu' : Valid ex u') (hag : ∀ c ∈ Ex, u' c = u c) {vs : List Value} (hg : GoodT C l m ex nd tk E0 L0 σ Kk u' vs) {t : Nat} (ht : ∀ (j : Nat) (o' : Oper), j < m → l[j]? = some o' → o'.dst = some t → j < i ∧ Anc l.toArray i j) :
    a.tmps.getD t undef = envAt ((l.take m).take i) (vs.take i) σ t := by
  by_cases hex : ∃ (j : Nat) (o' : Oper), j < m ∧ l[j]? = some o' ∧ o'.dst = some t
  · obtain ⟨j, o', hjm, hj, hd⟩ := hex
    obtain ⟨hlt, hanc⟩ := ht j o' hjm hj hd
    have hls := ready_anc hc hi hanc
    have hvl : j < vs.length := by
      rw [hg.len, List.length_take]
      have : j < l.length := (List.getElem?_eq_some_iff.1 hj).1
      omega
    have hv : vs[j]? = some vs[j] := List.getElem?_eq_getElem hvl
    rw [((h.vals u' hu' hag vs hg j o' _ hjm hj hv hls).1 t hd)]
    refine (envAt_one _ _ _ t j o' vs[j] ?_ ?_ hd ?_).symm
    · rw [List.getElem?_take, if_pos hlt]; exact take_get hjm hj
    · rw [List.getElem?_take, if_pos hlt]; exact hv
    · intro j' o'' hj' hne hd'
      obtain ⟨_, h2, h3⟩ := take_take_get hj'
      exact ok.ok.uniq j' o'' h2 (by simpa using h3) j o' hjm (by simpa using hj) (fun e => hne e.symm) t hd hd'
  · rw [h.base t (fun j o' hj ho' _ hd => hex ⟨j, o', hj, ho', hd⟩)]
    refine (envAt_none _ _ _ t fun j o' hj hd => ?_).symm
    obtain ⟨_, h2, h3⟩ := take_take_get hj
    exact hex ⟨j, o', h2, h3, hd⟩
theorem exAt_atT {vs : List Value} {i : Nat} {o : Oper} {v : Value} (hE : i ∉ E0) (ho : (l.take m)[i]? = some o) (hv : vs[i]? = some v) : i ∈ exAt l.toArray ex 0 (l.take m) vs σ E0 ↔ wants l.toArray (envAt ((l.take m).take i) (vs.take i) σ) o = true ∧ (ex i).isSome = true := by
  rw [exAt_mem]
  constructor
  · rintro (h | ⟨i', o', v', h1, h2, h3, h4, h5⟩)
    · exact absurd h hE
    · obtain rfl : i = i' := by omega
      rw [ho] at h1; cases h1
      exact ⟨h4, h5⟩
  · rintro ⟨h1, h2⟩
    exact .inr ⟨i, o, v, ho, hv, by omega, h1, h2⟩
theorem MidT.put {Kk : Got → Env → List Nat → Prop} {listed : Array Bool} {u u1 : Got} {Ex Ex1 : List Nat} {a : Act} {w w' : World} {i : Nat} {o : Oper} {v : Value} (ok : OkT l.toArray m nd tk E0) (h : MidT C l m ex nd tk E0 L0 σ Kk listed u Ex a w) (hlt : i < listed.size) (hi : ¬ Ls listed i) (him : i < m) (ho : l[i]? = some o) (hd : okDst C.N o.dst = true)
    (hv1 : Valid ex u1) (hnd : Ex1.Nodup) (hcase : (Ex1 = Ex ∧ u1 = u) ∨ (Ex1 = i :: Ex ∧ ∀ c ∈ Ex, u1 c = u c))
    (hvi : ∀ u', Valid ex u' → (∀ c ∈ Ex1, u' c = u1 c) → ∀ vs, GoodT C l m ex nd tk E0 L0 σ Kk u' vs → ∀ v', vs[i]? = some v' → v' = v ∧ (i ∈ Ex1 ↔ i ∈ exAt l.toArray ex 0 (l.take m) vs σ E0))
    (hh : Hp C.w0 C.B (hid C a ++ needs u1 (liveT tk Ex1) L0) w') : MidT C l m ex nd tk E0 L0 σ Kk (listed.setIfInBounds i true) u1 Ex1 (a.put o.dst v) w' := by
  refine ⟨by rw [put_size]; exact h.size, hv1, hnd, ?_, ?_, ?_, ?_, by rw [hid_put]; exact hh⟩
  · intro c hc
    rw [Ls.set_iff hlt]
    rcases hcase with ⟨rfl, _⟩ | ⟨rfl, _⟩
    · exact (h.sub c hc).imp (fun ⟨h1, h2⟩ => ⟨h1, .inr h2⟩) id
    · rcases List.mem_cons.1 hc with rfl | hc
      · exact .inl ⟨him, .inl rfl⟩
      · exact (h.sub c hc).imp (fun ⟨h1, h2⟩ => ⟨h1, .inr h2⟩) id
  · intro c hc
    rcases hcase with ⟨rfl, _⟩ | ⟨rfl, _⟩
    · exact h.old c hc
    · exact List.mem_cons_of_mem _ (h.old c hc)
  · intro t ht
    rw [put_read h.size hd, if_neg (ht i o him ho ((Ls.set_iff hlt).2 (.inl rfl)))]
    exact h.base t (fun j o' hj ho' hl => ht j o' hj ho' ((Ls.set_iff hlt).2 (.inr hl)))
  · intro u' hu' hag vs hg j o' v' hj ho' hv' hl
    have hag' : ∀ c ∈ Ex, u' c = u c := fun c hc => by
      rcases hcase with ⟨rfl, rfl⟩ | ⟨rfl, h2⟩
      · exact hag c hc
      · rw [hag c (by simp [hc]), h2 c hc]
    by_cases hij : j = i
    · subst hij
      rw [ho] at ho'; cases ho'
      obtain ⟨h1, h2⟩ := hvi u' hu' hag vs hg v' hv'
      subst h1
      exact ⟨fun t ht => by rw [put_read h.size hd, if_pos ht], h2⟩
    · rw [Ls.set_iff hlt] at hl
      have hl := hl.resolve_left hij
      obtain ⟨h1, h2⟩ := h.vals u' hu' hag' vs hg j o' v' hj ho' hv' hl
      refine ⟨fun t ht => ?_, ?_⟩
      · rw [put_read h.size hd, if_neg (ok.ok.uniq i o him (by simpa using ho) j o' hj (by simpa using ho') hij t ht)]
        exact h1 t ht
      · rw [← h2]
        rcases hcase with ⟨rfl, _⟩ | ⟨rfl, _⟩
        · exact Iff.rfl
        · simp [hij]
theorem live_perm {E E' : List Nat} (h : E.Perm E') : (liveT tk E).Perm (liveT tk E') := by
  unfold liveT
  have : (fun c => !(E.any fun k => decide (tk k = some c))) = fun c => !(E'.any fun k => decide (tk k = some c)) := by
    funext c
    congr 1
    rw [Bool.eq_iff_iff, List.any_eq_true, List.any_eq_true]
    exact ⟨fun ⟨k, h1, h2⟩ => ⟨k, h.mem_iff.1 h1, h2⟩, fun ⟨k, h1, h2⟩ => ⟨k, h.mem_iff.2 h1, h2⟩⟩
  rw [this]
  exact h.filter _
theorem needs_perm {u : Got} {E E' : List Nat} (h : E.Perm E') : (needs u E L0).Perm (needs u E' L0) := by
  unfold needs
  exact List.Perm.append_right _ (List.Perm.flatMap_right _ h)
theorem tail_anyT (ok : OkT l.toArray m nd tk E0) {F : Fence} {Q : Exit → Act → World → Prop} (fuel j : Nat) (listed : Array Bool) (a : Act) (w : World) (h1 : listed.size = l.length) (h2 : Shut l.toArray listed) (h3 : ∀ k, Ls listed k ↔ k < j) (h4 : m ≤ j) (h5 : j ≤ l.length) (h6 : l.length ≤ j + fuel)
    (h : wpListIn F 0 C.P l.toArray Q (l.drop j) a w) : wpAnyIn F 0 C.P .any l.toArray Q fuel listed a w := tail_any ok.ok fuel j listed a w h1 h2 h3 h4 h5 h6 h
theorem draw_endT {Q : Exit → Act → World → Prop} {Kk : Got → Env → List Nat → Prop} (ok : OkT l.toArray m nd tk E0) (hgood : ∀ u, Valid ex u → ∃ vs, GoodT C l m ex nd tk E0 L0 σ Kk u vs)
    (hK : ∀ u σ' E a w, Kk u σ' E → Agree a σ' → St C (needs u (liveT tk E) L0) a w → wpListIn (FR C.r) 0 C.P l.toArray Q (l.drop m) a w)
    (listed : Array Bool) (u : Got) (Ex : List Nat) (a : Act) (w : World) (fuel : Nat) (hs : listed.size = l.length) (hc : Shut l.toArray listed) (hm : ∀ k, Ls listed k → k < m) (hall : ∀ j, j < m → Ls listed j) (hf : l.length ≤ m + fuel)
    (h : MidT C l m ex nd tk E0 L0 σ Kk listed u Ex a w) : wpAnyIn (FR C.r) 0 C.P .any l.toArray Q fuel listed a w := by
  have hml : m ≤ l.length := by simpa using ok.ok.le
  have hbig : l.length ≤ 1000 := by simpa using ok.big
  obtain ⟨vs, hg⟩ := hgood u h.valid
  have hvl : vs.length = m := by rw [hg.len, List.length_take]; omega
  refine tail_anyT ok fuel m listed a w hs hc (fun k => ⟨hm k, hall k⟩) (Nat.le_refl _) hml hf ?_
  refine hK u _ _ a w hg.fin ?_ ⟨h.size, ?_⟩
  · intro t
    by_cases hex : ∃ (j : Nat) (o' : Oper), j < m ∧ l[j]? = some o' ∧ o'.dst = some t
    · obtain ⟨j, o', hjm, hj, hd⟩ := hex
      have hv : vs[j]? = some (vs[j]'(by omega)) := List.getElem?_eq_getElem (by omega)
      rw [(h.vals u h.valid (fun _ _ => rfl) vs hg j o' _ hjm hj hv (hall j hjm)).1 t hd]
      refine (envAt_one _ _ _ t j o' _ (take_get hjm hj) hv hd ?_).symm
      intro j' o'' hj' hne hd'
      obtain ⟨h2, h3⟩ := get_take hj'
      exact ok.ok.uniq j' o'' h2 (by simpa using h3) j o' hjm (by simpa using hj) (fun e => hne e.symm) t hd hd'
    · rw [h.base t (fun j o' hj ho' _ hd => hex ⟨j, o', hj, ho', hd⟩)]
      refine (envAt_none _ _ _ t fun j o' hj hd => ?_).symm
      obtain ⟨h2, h3⟩ := get_take hj
      exact hex ⟨j, o', h2, h3, hd⟩
  · refine h.heap.perm (List.Perm.append_left _ (needs_perm (live_perm ?_)))
    refine (List.perm_ext_iff_of_nodup h.nodup (exAt_nodupT _ _ _ _ _ ok.e0 (fun c hc => .inr (by have := (ok.tok c hc).1; simp; omega)))).2 fun c => ?_
    have key : ∀ c, c < m → (c ∈ Ex ↔ c ∈ exAt l.toArray ex 0 (l.take m) vs σ E0) := fun c hc =>
      (h.vals u h.valid (fun _ _ => rfl) vs hg c l[c] (vs[c]'(by omega)) hc (List.getElem?_eq_getElem (by omega)) (List.getElem?_eq_getElem (by omega)) (hall c hc)).2
    constructor
    · intro hcm
      rcases h.sub c hcm with h1 | h1
      · exact (key c h1.1).1 hcm
      · exact (exAt_mem _ _ _ _ _ _).2 (.inl h1)
    · intro hcm
      rcases (exAt_mem _ _ _ _ _ _).1 hcm with h0 | ⟨i, o, v, h1, _, h3, _⟩
      · exact h.old c h0
      · exact (key c (by have := (get_take h1).1; omega)).2 hcm
where
  exAt_nodupT : ∀ (l' : List Oper) (vs : List Value) (k : Nat) (σ : Env) (E : List Nat), E.Nodup → (∀ c ∈ E, c < k ∨ k + l'.length ≤ c) → (exAt l.toArray ex k l' vs σ E).Nodup
    | [], _, _, _, _, h, _ => by simpa [exAt] using h
    | _ :: _, [], _, _, _, h, _ => by simpa [exAt] using h
    | o :: l', v :: vs, k, σ, E, h, hk => by
      rw [exAt]
      simp only [List.length_cons] at hk
      refine exAt_nodupT l' vs (k + 1) _ _ ?_ ?_
      · unfold made; split
        · exact List.nodup_cons.2 ⟨fun hc => by rcases hk k hc with h' | h' <;> omega, h⟩
        · exact h
      · intro c hc
        unfold made at hc; split at hc
        · rcases List.mem_cons.1 hc with rfl | hc
          · omega
          · rcases hk c hc with h' | h' <;> omega
        · rcases hk c hc with h' | h' <;> omega
theorem draw_anyT {Q : Exit → Act → World → Prop} {Kk : Got → Env → List Nat → Prop} (ok : OkT l.toArray m nd tk E0) (hgood : ∀ u, Valid ex u → ∃ vs, GoodT C l m ex nd tk E0 L0 σ Kk u vs)
    (hK : ∀ u σ' E a w, Kk u σ' E → Agree a σ' → St C (needs u (liveT tk E) L0) a w → wpListIn (FR C.r) 0 C.P l.toArray Q (l.drop m) a w) :
    ∀ (fuel : Nat) (listed : Array Bool) (u : Got) (Ex : List Nat) (a : Act) (w : World), listed.size = l.length → Shut l.toArray listed → (∀ k, Ls listed k → k < m) → listed.toList.countP (fun b => !b) ≤ fuel →
      MidT C l m ex nd tk E0 L0 σ Kk listed u Ex a w → wpAnyIn (FR C.r) 0 C.P .any l.toArray Q fuel listed a w := by
  have hml : m ≤ l.length := by simpa using ok.ok.le
  have hbig : l.length ≤ 1000 := by simpa using ok.big
  have hnE : ∀ i, i < m → i ∉ E0 := fun i hi hE => by have := (ok.tok i hE).1; omega
  have hcount : ∀ (listed : Array Bool), listed.size = l.length → (∀ k, Ls listed k → k < m) → l.length - m ≤ listed.toList.countP (fun b => !b) := fun listed hs hm => by
    have h1 : (listed.toList.drop m).countP (fun b => !b) ≤ listed.toList.countP (fun b => !b) := (List.drop_sublist m _).countP_le
    have h2 : (listed.toList.drop m).countP (fun b => !b) = (listed.toList.drop m).length := by
      rw [List.countP_eq_length]
      intro b hb
      obtain ⟨j, hj⟩ := List.getElem?_of_mem hb
      rw [List.getElem?_drop] at hj
      cases b with
      | false => rfl
      | true =>
        have : Ls listed (m + j) := by
          unfold Ls
          rw [Array.getD_eq_getD_getElem?, ← Array.getElem?_toList, hj]; rfl
        have := hm _ this
        omega
    rw [List.length_drop, Array.length_toList, hs] at h2
    omega
  intro fuel
  induction fuel with
  | zero =>
    intro listed u Ex a w hs hc hm hcnt h
    have hml' := hcount listed hs hm
    refine draw_endT ok hgood hK listed u Ex a w 0 hs hc hm (fun j hj => ?_) (by omega) h
    have h0 : listed.toList.countP (fun b => !b) = 0 := by omega
    rw [List.countP_eq_zero] at h0
    have := h0 (listed[j]'(by omega)) (by simp)
    unfold Ls
    rw [Array.getD_eq_getD_getElem?, Array.getElem?_eq_getElem (by omega)]
    simpa using this
  | succ fuel ih =>
    intro listed u Ex a w hs hc hm hcnt h
    have hml' := hcount listed hs hm
    by_cases hall : ∀ j, j < m → Ls listed j
    · exact draw_endT ok hgood hK listed u Ex a w (fuel + 1) hs hc hm hall (by omega) h
    refine ⟨fun hr => absurd (fun j hj => all_listed ok.ok (by simpa using hs) hr j (by simp; omega)) hall, fun i hi => ?_⟩
    obtain ⟨h1, o, ho', _⟩ := mem_ready.1 hi
    have ho : l[i]? = some o := by simpa using ho'
    have hil : i < l.length := (List.getElem?_eq_some_iff.1 ho).1
    have hni : ¬ Ls listed i := (not_ls (by omega)).2 h1
    have him : i < m := by
      rcases Nat.lt_or_ge i m with h' | h'
      · exact h'
      · exact absurd (fun j hj => ready_anc hc hi (ok.ok.tail i o h' ho' j (by omega))) hall
    have hc' := hc.set hi (by omega)
    have hm' : ∀ k, Ls (listed.setIfInBounds i true) k → k < m := fun k hk => by
      rcases (Ls.set_iff (by omega)).1 hk with rfl | hk
      · exact him
      · exact hm k hk
    have hcnt' : (listed.setIfInBounds i true).toList.countP (fun b => !b) ≤ fuel := by
      have hb : listed.toList[i]'(by simp; omega) = false := by
        have := h1
        rw [Array.getD_eq_getD_getElem?, Array.getElem?_eq_getElem (by omega)] at this
        simpa using this
      have hpos : 0 < listed.toList.countP (fun b => !b) := List.countP_pos_iff.2 ⟨false, by rw [← hb]; exact List.getElem_mem _, rfl⟩
      have e := List.countP_set (p := fun b : Bool => !b) (l := listed.toList) (i := i) (a := true) (by simp; omega)
      rw [hb] at e
      rw [Array.toList_setIfInBounds, e]
      show _ - 1 + 0 ≤ fuel
      omega
    have goOn := fun u1 Ex1 a1 w1 => ih (listed.setIfInBounds i true) u1 Ex1 a1 w1 (by simpa using hs) hc' hm' hcnt'
    have hread : ∀ u', Valid ex u' → (∀ c ∈ Ex, u' c = u c) → ∀ vs, GoodT C l m ex nd tk E0 L0 σ Kk u' vs → (∀ x ∈ o.op.operands, ev (fun t => a.tmps.getD t undef) x = ev (envAt ((l.take m).take i) (vs.take i) σ) x) ∧ wants l.toArray (fun t => a.tmps.getD t undef) o = wants l.toArray (envAt ((l.take m).take i) (vs.take i) σ) o := fun u' hu' hag vs hg => by
      refine ⟨fun x hx => ?_, wants_congr fun g b hgd tg htg => ?_⟩
      · cases x with
        | tmp t => exact h.read ok hc hi him ho hu' hag hg (fun j o' hj hjo hd => ok.ok.look i o him ho' j o' hj (by simpa using hjo) t hd hx)
        | _ => rfl
      · exact h.read ok hc hi him ho hu' hag hg (fun j o' hj hjo hd => ok.ok.gard i o him ho' g b hgd tg htg j o' hj (by simpa using hjo) hd)
    have hexec : ∀ u', Valid ex u' → (∀ c ∈ Ex, u' c = u c) → ∀ vs, GoodT C l m ex nd tk E0 L0 σ Kk u' vs → execOp (ev (fun t => a.tmps.getD t undef)) o = execOp (ev (envAt ((l.take m).take i) (vs.take i) σ)) o := fun u' hu' hag vs hg =>
      execOp_congr o (ok.ok.sel i o ho') (hread u' hu' hag vs hg).1
    have hat : ∀ vs : List Value, vs.length = (l.take m).length → ∃ v, vs[i]? = some v := fun vs hl => ⟨vs[i]'(by rw [hl, List.length_take]; omega), List.getElem?_eq_getElem _⟩
    -- no one who has run takes what i reads, but i itself
    have hfree : ∀ c ∈ nd i, ∀ k ∈ Ex, tk k ≠ some c := fun c hcn k hk hkc => by
      rcases h.sub k hk with ⟨hkm, hkl⟩ | hk0
      · have h2 := ok.tak k hkm c hkc
        have hki : i ≠ k := fun e => hni (e ▸ hkl)
        have h3 := (h2.2.2 i him hki hcn).2
        exact hni (anc_in (D := Ls listed) hc h3 (hc k hkl))
      · rw [(ok.tok k hk0).2] at hkc; cases hkc
    have hneed : ∀ u' vs, Valid ex u' → (∀ c ∈ Ex, u' c = u c) → GoodT C l m ex nd tk E0 L0 σ Kk u' vs → (∀ c ∈ nd i, c ∈ liveT tk (exAt l.toArray ex 0 ((l.take m).take i) (vs.take i) σ E0)) →
        ∃ Rl : List Nat, (liveT tk Ex).Perm (nd i ++ Rl) ∧ Hp C.w0 C.B ((hid C a ++ Rl.flatMap fun c => (u c).2) ++ needs u' (nd i) L0) w := fun u' vs hu' hag hg hn => by
      have hsub : ∀ c ∈ nd i, c ∈ liveT tk Ex := fun c hcn => by
        refine mem_liveT.2 ⟨?_, hfree c hcn⟩
        rcases ok.has i him c hcn with hc1 | hc1
        · have hcn' : c ∈ (nd i).filter fun c => Nat.blt c 1000 := List.mem_filter.2 ⟨hcn, Nat.ble_eq_true_of_le hc1⟩
          have hcl := ready_anc hc hi (ok.ok.need i o him ho' c hcn').2
          have hci := (ok.ok.need i o him ho' c hcn').1
          have hcm : c < m := by omega
          obtain ⟨v, hv⟩ : ∃ v, vs[c]? = some v := ⟨vs[c]'(by rw [hg.len, List.length_take]; omega), List.getElem?_eq_getElem _⟩
          refine ((h.vals u' hu' hag vs hg c l[c] v hcm (List.getElem?_eq_getElem (by omega)) hv hcl).2).2 ?_
          rcases (exAt_mem _ _ _ _ _ _).1 (mem_liveT.1 (hn c hcn)).1 with h0 | ⟨j, o', v', h2, h3, h4, h5, h6⟩
          · have := (ok.tok c h0).1; omega
          · obtain ⟨hji, hjm, hjl⟩ := take_take_get h2
            refine (exAt_mem _ _ _ _ _ _).2 (.inr ⟨j, o', v', take_get hjm hjl, ?_, h4, ?_, h6⟩)
            · rw [List.getElem?_take, if_pos hji] at h3; exact h3
            · have e1 : ((l.take m).take i).take j = (l.take m).take j := by rw [List.take_take, Nat.min_eq_left (by omega)]
              have e2 : (vs.take i).take j = vs.take j := by rw [List.take_take, Nat.min_eq_left (by omega)]
              rw [e1, e2] at h5; exact h5
        · exact h.old c hc1
      have hnd : (liveT tk Ex).Nodup := h.nodup.filter _
      obtain ⟨R, hp⟩ := perm_needs hsub (ok.nodu i him) hnd
      have hfl : ∀ E : List Nat, (∀ c ∈ E, c ∈ Ex) → E.flatMap (fun c => (u c).2) = E.flatMap (fun c => (u' c).2) := fun E hE => by
        induction E with
        | nil => rfl
        | cons c E ihE =>
          rw [List.flatMap_cons, List.flatMap_cons, hag c (hE c (by simp)), ihE (fun d hd => hE d (by simp [hd]))]
      have hpp : (needs u (liveT tk Ex) L0).Perm ((R.flatMap fun c => (u c).2) ++ needs u' (nd i) L0) := by
        unfold needs
        rw [← hfl (nd i) (fun c hcn => (mem_liveT.1 (hsub c hcn)).1), ← List.append_assoc]
        refine List.Perm.append_right _ ((List.Perm.flatMap_right _ hp).trans ?_)
        rw [List.flatMap_append]
        exact List.perm_append_comm
      refine ⟨R, hp, h.heap.perm ?_⟩
      rw [List.append_assoc]
      exact List.Perm.append_left _ hpp
    obtain ⟨vs, hg⟩ := hgood u h.valid
    obtain ⟨v, hv⟩ := hat vs hg.len
    have hstep := hg.step i o v (take_get him ho) hv
    obtain ⟨hd, hstep⟩ := hstep
    unfold wpOpIn
    rw [ho']
    simp only
    rcases hstep with ⟨hw, hn, hcase⟩ | ⟨hw, rfl⟩
    · rw [if_pos (wanted_eq (Agree.refl a) (by rw [(hread u h.valid (fun _ _ => rfl) vs hg).2]; exact hw))]
      obtain ⟨R, hp, hhp⟩ := hneed u vs h.valid (fun _ _ => rfl) hg hn
      rcases hcase with ⟨V, hx, rfl, hsp⟩ | ⟨hx, hsd⟩
      · have hgo := hsp _ w hhp
        rw [← hexec u h.valid (fun _ _ => rfl) vs hg] at hgo
        refine hgo.wpIn (Agree.refl a) ?_
        rintro v' w' ⟨L', hh', T, rfl, hV⟩
        have hniE : i ∉ Ex := fun hiE => by
          rcases h.sub i hiE with h2 | h2
          · exact hni h2.2
          · exact hnE i him h2
        have hval : Valid ex (fun c => if c = i then (v', T) else u c) := fun k V' hk => by
          by_cases hki : k = i
          · subst hki; rw [hx] at hk; cases hk; simpa using hV
          · simp only [if_neg hki]; exact h.valid k V' hk
        have hsame : ∀ c ∈ Ex, (if c = i then (v', T) else u c) = u c := fun c hcE => if_neg (fun e : c = i => hniE (e ▸ hcE))
        refine goOn (fun c => if c = i then (v', T) else u c) (i :: Ex) _ _ ?_
        refine h.put ok (by omega) hni him ho hd hval (List.nodup_cons.2 ⟨hniE, h.nodup⟩) (.inr ⟨rfl, hsame⟩) ?_ ?_
        · intro u' hu' hag vs' hg' v2 hv2
          have hag' : ∀ c ∈ Ex, u' c = u c := fun c hcE => by rw [hag c (by simp [hcE]), hsame c hcE]
          obtain ⟨_, hs2⟩ := hg'.step i o v2 (take_get him ho) hv2
          have hw2 : wants l.toArray (envAt ((l.take m).take i) (vs'.take i) σ) o = true := by
            rw [← (hread u' hu' hag' vs' hg').2, (hread u h.valid (fun _ _ => rfl) vs hg).2]; exact hw
          refine ⟨?_, by simp [exAt_atT (hnE i him) (take_get him ho) hv2, hw2, hx]⟩
          rcases hs2 with ⟨_, _, ⟨V2, hx2, rfl, _⟩ | ⟨hx2, _⟩⟩ | ⟨hw3, _⟩
          · have := hag i (by simp)
            rw [this]; simp
          · rw [hx] at hx2; cases hx2
          · rw [hw2] at hw3; cases hw3
        · refine hh'.perm ?_
          rw [List.append_assoc]
          refine List.Perm.append_left _ ?_
          -- what lives behind it
          have hlive : (liveT tk (i :: Ex)).Perm (i :: ((nd i).filter (fun c => !decide (tk i = some c)) ++ R)) := by
            have e0 : liveT tk (i :: Ex) = i :: (liveT tk Ex).filter (fun c => !decide (tk i = some c)) := by
              unfold liveT
              have hii : (!((i :: Ex).any fun k => decide (tk k = some i))) = true := by
                simp only [Bool.not_eq_true', List.any_eq_false, List.mem_cons, decide_eq_true_eq]
                rintro k (rfl | hk) hkc
                · exact (ok.tak _ him _ hkc).2.1 rfl
                · rcases h.sub k hk with ⟨hkm, hkl⟩ | hk0
                  · have h2 := ok.tak k hkm i hkc
                    have h4 : i ∈ (nd k).filter fun c => Nat.blt c 1000 := List.mem_filter.2 ⟨h2.1, Nat.ble_eq_true_of_le (by omega)⟩
                    obtain ⟨ok', hok'⟩ : ∃ o', l[k]? = some o' := ⟨l[k]'(by omega), List.getElem?_eq_getElem (by omega)⟩
                    have h3 := (ok.ok.need k ok' hkm (by simpa using hok') i h4).2
                    exact hni (anc_in (D := Ls listed) hc h3 (hc k hkl))
                  · rw [(ok.tok k hk0).2] at hkc; cases hkc
              rw [List.filter_cons, if_pos hii]
              congr 1
              rw [List.filter_filter]
              apply List.filter_congr
              intro c _
              simp only [List.any_cons, Bool.not_or]
            rw [e0]
            refine List.Perm.cons _ ?_
            refine (hp.filter _).trans ?_
            rw [List.filter_append]
            refine List.Perm.append_left _ ?_
            have : R.filter (fun c => !decide (tk i = some c)) = R := by
              rw [List.filter_eq_self]
              intro c hcR
              simp only [Bool.not_eq_true', decide_eq_false_iff_not]
              intro hkc
              have h2 := (ok.tak i him c hkc).1
              have hnd : (nd i ++ R).Nodup := hp.nodup_iff.1 (h.nodup.filter _)
              exact (List.nodup_append.1 hnd).2.2 c h2 c hcR rfl
            rw [this]
          have hRE : ∀ c ∈ (nd i).filter (fun c => !decide (tk i = some c)) ++ R, c ∈ Ex := fun c hcc => by
            have : c ∈ nd i ++ R := by
              rcases List.mem_append.1 hcc with h2 | h2
              · exact List.mem_append_left _ (List.mem_filter.1 h2).1
              · exact List.mem_append_right _ h2
            exact (mem_liveT.1 (hp.mem_iff.2 this)).1
          have e1 : ∀ E : List Nat, (∀ c ∈ E, c ∈ Ex) → E.flatMap (fun c => (if c = i then (v', T) else u c).2) = E.flatMap (fun c => (u c).2) := fun E hE => by
            induction E with
            | nil => rfl
            | cons c E ihE => rw [List.flatMap_cons, List.flatMap_cons, hsame c (hE c (by simp)), ihE (fun d hd => hE d (by simp [hd]))]
          have e2 : needs (fun c => if c = i then (v', T) else u c) (i :: ((nd i).filter (fun c => !decide (tk i = some c)) ++ R)) L0 = T ++ (((nd i).filter (fun c => !decide (tk i = some c))).flatMap (fun c => (u c).2) ++ (R.flatMap (fun c => (u c).2) ++ L0)) := by
            unfold needs
            rw [List.flatMap_cons, e1 _ hRE, List.flatMap_append]
            simp
          refine List.Perm.trans ?_ (needs_perm hlive.symm)
          rw [e2]
          unfold needs
          refine List.Perm.trans List.perm_append_comm ?_
          rw [List.append_assoc, List.append_assoc]
          refine List.Perm.append_left _ (List.Perm.append_left _ List.perm_append_comm)
      · have hrun := hsd _ w hhp
        rw [← hexec u h.valid (fun _ _ => rfl) vs hg] at hrun
        have hgo : Goes C.P ((execOp (ev (fun t => a.tmps.getD t undef)) o).run C.P w) (fun v' w' => v' = v ∧ w' = w) := .inl ⟨v, w, hrun, rfl, rfl⟩
        refine hgo.wpIn (Agree.refl a) ?_
        rintro v' w' ⟨rfl, rfl⟩
        have hniE : i ∉ Ex := fun hiE => by
          rcases h.sub i hiE with h2 | h2
          · exact hni h2.2
          · exact hnE i him h2
        refine goOn u Ex _ _ (h.put ok (by omega) hni him ho hd h.valid h.nodup (.inl ⟨rfl, rfl⟩) ?_ h.heap)
        intro u' hu' hag vs' hg' v2 hv2
        obtain ⟨_, hs2⟩ := hg'.step i o v2 (take_get him ho) hv2
        have hw2 : wants l.toArray (envAt ((l.take m).take i) (vs'.take i) σ) o = true := by
          rw [← (hread u' hu' hag vs' hg').2, (hread u h.valid (fun _ _ => rfl) vs hg).2]; exact hw
        refine ⟨?_, by simp [exAt_atT (hnE i him) (take_get him ho) hv2, hx, hniE]⟩
        rcases hs2 with ⟨_, hn2, ⟨V2, hx2, _, _⟩ | ⟨_, hsd2⟩⟩ | ⟨hw3, _⟩
        · rw [hx] at hx2; cases hx2
        · obtain ⟨R2, _, hhp2⟩ := hneed u' vs' hu' hag hg' hn2
          have hrun2 := hsd2 _ w' hhp2
          rw [← hexec u' hu' hag vs' hg', hrun] at hrun2
          injection hrun2 with h5
          injection h5 with h5
          exact h5.symm
        · rw [hw2] at hw3; cases hw3
    · rw [if_neg (by rw [wanted_ne (Agree.refl a) (by rw [(hread u h.valid (fun _ _ => rfl) vs hg).2]; exact hw)]; simp)]
      have hniE : i ∉ Ex := fun hiE => by
        rcases h.sub i hiE with h2 | h2
        · exact hni h2.2
        · exact hnE i him h2
      refine ⟨fun _ _ => trivial, goOn u Ex _ _ (h.put ok (by omega) hni him ho hd h.valid h.nodup (.inl ⟨rfl, rfl⟩) ?_ h.heap)⟩
      intro u' hu' hag vs' hg' v2 hv2
      obtain ⟨_, hs2⟩ := hg'.step i o v2 (take_get him ho) hv2
      have hw2 : wants l.toArray (envAt ((l.take m).take i) (vs'.take i) σ) o = false := by
        rw [← (hread u' hu' hag vs' hg').2, (hread u h.valid (fun _ _ => rfl) vs hg).2]; exact hw
      refine ⟨?_, by simp [exAt_atT (hnE i him) (take_get him ho) hv2, hw2, hniE]⟩
      rcases hs2 with ⟨hw3, _⟩ | ⟨_, h5⟩
      · rw [hw2] at hw3; cases hw3
      · exact h5
end
/-- **A REGION WHOSE ORDER IS DRAWN**, what was there in tokens E0: token c holds T0 c. -/
theorem Cd.drawT {C : Ctx} {Q : Exit → Env → List Res → Prop} {id : Nat} {l : List Oper} {σ : Env} {L L0 : List Res} (hm : C.P.follows .mixedOrders = true) (m : Nat) (ex : Nat → Option (Value → List Res → Prop)) (nd : Nat → List Nat) (tk : Nat → Option Nat) (E0 : List Nat) (T0 : Nat → List Res) (hok : drawOkT l.toArray m nd tk E0 = true)
    (hL : L.Perm (E0.flatMap T0 ++ L0)) (hex : ∀ c ∈ E0, ex c = some (fun v R => v = undef ∧ R = T0 c)) (hin : ∀ k V, ex k = some V → ∃ v R, V v R)
    (h : ∀ u : Got, Valid ex u → (∀ c ∈ E0, u c = (undef, T0 c)) → WkT C l.toArray ex nd tk u L0 0 (l.take m) σ E0 (fun σ' E => Ol C l.toArray (l.drop m) (fun σ L => Q .normal σ L) σ' (needs u (liveT tk E) L0))) :
    Cd C (.region id l.toArray true) Q σ L := by
  intro a w ha hs
  refine wpIn_region_any hm ?_
  have ok : OkT l.toArray m nd tk E0 := OkT.mk' hok
  have hu0e : ∀ u, Valid ex u → ∀ c ∈ E0, u c = (undef, T0 c) := fun u hu c hc => by
    obtain ⟨h1, h2⟩ := hu c _ (hex c hc)
    rw [← h1, ← h2]
  have hgood : ∀ u, Valid ex u → ∃ vs, GoodT C l m ex nd tk E0 L0 σ (fun u σ' E => Ol C l.toArray (l.drop m) (fun σ L => Q .normal σ L) σ' (needs u (liveT tk E) L0)) u vs := fun u hu => by
    obtain ⟨vs, h1, h2, h3⟩ := (h u hu (hu0e u hu)).vals
    exact ⟨vs, h1, fun i o v hi hv => by simpa using h2 i o v hi hv, h3⟩
  have hu0 : ∃ u : Got, Valid ex u := by
    refine ⟨fun k => match hx : ex k with
      | some V => (Classical.choose (hin k V hx), Classical.choose (Classical.choose_spec (hin k V hx)))
      | none => (undef, []), fun k V hk => ?_⟩
    have := Classical.choose_spec (Classical.choose_spec (hin k V hk))
    simp only
    split
    · rename_i V' hx
      rw [hk] at hx
      cases hx
      exact this
    · rename_i hx; rw [hk] at hx; cases hx
  obtain ⟨u, hu⟩ := hu0
  have hlive : liveT tk E0 = E0 := by
    unfold liveT
    rw [List.filter_eq_self]
    intro c _
    simp only [Bool.not_eq_true', List.any_eq_false, decide_eq_true_eq]
    intro k hk hkc
    rw [(ok.tok k hk).2] at hkc; cases hkc
  have hneeds : needs u E0 L0 = E0.flatMap T0 ++ L0 := by
    unfold needs
    congr 1
    have : ∀ E : List Nat, (∀ c ∈ E, c ∈ E0) → E.flatMap (fun c => (u c).2) = E.flatMap T0 := fun E hE => by
      induction E with
      | nil => rfl
      | cons c E ihE => rw [List.flatMap_cons, List.flatMap_cons, hu0e u hu c (hE c (by simp)), ihE (fun d hd => hE d (by simp [hd]))]
    exact this E0 (fun _ h => h)
  refine draw_anyT (nd := nd) (tk := tk) (E0 := E0) (ex := ex) (σ := σ) (L0 := L0) ok hgood (fun u σ' E a w hk ha hs => hk a w _ ha hs fun a' w' σ'' L' h1 h2 h3 => ⟨σ'', L', h1, h2, h3⟩) l.toArray.size (Array.replicate l.toArray.size false) u E0 a _ (by simp) ?_ ?_ ?_ ⟨hs.size, hu, ok.e0, fun c hc => .inr hc, fun c hc => hc, fun t _ => ha t, ?_, ?_⟩
  · intro k hk
    exact (ls_rep hk).elim
  · intro k hk
    exact (ls_rep hk).elim
  · simp only [Array.toList_replicate]
    exact Nat.le_trans List.countP_le_length (by simp)
  · intro u' _ _ vs _ j o v _ _ _ hl
    exact (ls_rep hl).elim
  · rw [hlive, hneeds]
    exact (hs.heap.step (Stp.drew w)).perm (List.Perm.append_left _ hL)
/-! ### The walk's steps -/
section
variable {C : Ctx} {all : Array Oper} {ex : Nat → Option (Value → List Res → Prop)} {nd : Nat → List Nat} {tk : Nat → Option Nat} {u : Got} {L0 : List Res} {k : Nat} {rest : List Oper} {σ : Env} {E : List Nat} {K : Env → List Nat → Prop} {op : Op} {d : Option Nat} {ty : TypeId} {pos : String} {af : Array Edge} {gd : Option (Nat × Bool)} {v : Value}
theorem WkT.nil (h : K σ E) : WkT C all ex nd tk u L0 k [] σ E K := h
theorem WkT.goN {l : List Nat} (hw : wants all σ ⟨d, op, ty, pos, af, gd⟩ = true) (h : Sd C.P C.w0 C.B ⟨d, op, ty, pos, af, gd⟩ σ (needs u l L0) v) (hk : WkT C all ex nd tk u L0 (k + 1) rest (updO σ d v) E K)
    (hd : okDst C.N d = true) (hx : ex k = none) (hn : nd k = l) (hE : ∀ c ∈ l, c ∈ liveT tk E) : WkT C all ex nd tk u L0 k (⟨d, op, ty, pos, af, gd⟩ :: rest) σ E K := by
  unfold WkT
  simp only [hw, cond_true, hx, hn]
  exact ⟨hE, hd, v, h, hk⟩
theorem WkT.goX {l l2 : List Nat} {V : Value → List Res → Prop} (hw : wants all σ ⟨d, op, ty, pos, af, gd⟩ = true) (hu : Valid ex u) (hx : ex k = some V) (hn : nd k = l) (h2 : (l.filter fun c => !decide (tk k = some c)) = l2) (hE : ∀ c ∈ l, c ∈ liveT tk E)
    (h : Sp C.P C.w0 C.B ⟨d, op, ty, pos, af, gd⟩ σ (needs u l L0) (Adds V (needs u l2 L0))) (hk : ∀ v T, u k = (v, T) → V v T → WkT C all ex nd tk u L0 (k + 1) rest (updO σ d v) (k :: E) K)
    (hd : okDst C.N d = true) : WkT C all ex nd tk u L0 k (⟨d, op, ty, pos, af, gd⟩ :: rest) σ E K := by
  unfold WkT
  simp only [hw, cond_true, hx, hn, h2]
  exact ⟨hE, hd, h, hk _ _ rfl (hu k V hx)⟩
theorem WkT.p (h : Sd C.P C.w0 C.B ⟨d, op, ty, pos, af, none⟩ σ L0 v) (hk : WkT C all ex nd tk u L0 (k + 1) rest (updO σ d v) E K) (hd : okDst C.N d = true := by rfl) (hx : ex k = none := by rfl) (hn : nd k = [] := by rfl) :
    WkT C all ex nd tk u L0 k (⟨d, op, ty, pos, af, none⟩ :: rest) σ E K := WkT.goN (l := []) rfl h hk hd hx hn (fun c h => by cases h)
theorem WkT.xn {l l2 : List Nat} {V : Value → List Res → Prop} (hu : Valid ex u) (hn : nd k = l) (h2 : (l.filter fun c => !decide (tk k = some c)) = l2) (hE : (l.all fun c => (liveT tk E).contains c) = true) (h : Sp C.P C.w0 C.B ⟨d, op, ty, pos, af, none⟩ σ (needs u l L0) (Adds V (needs u l2 L0))) (hk : ∀ v T, u k = (v, T) → V v T → WkT C all ex nd tk u L0 (k + 1) rest (updO σ d v) (k :: E) K)
    (hd : okDst C.N d = true := by rfl) (hx : ex k = some V := by rfl) : WkT C all ex nd tk u L0 k (⟨d, op, ty, pos, af, none⟩ :: rest) σ E K :=
  WkT.goX rfl hu hx hn h2 (fun c hc => by simpa using List.all_eq_true.1 hE c hc) h hk hd
end
end Go.Proofs.YtkefmjhagmacfaaGreatDoor

/- Many rows of numbers of one's own, one behind the other among what is held; arrays told by a function. Over any program. -/
namespace Go.Proofs.YtkefmjhagmacfaaGreatDoor
set_option linter.unusedVariables false
open Go Go.RowKit

/-- Cells told by a function. -/
def rngV (n : Nat) (h : Nat → Value) : Array Value := ((List.range n).map h).toArray
theorem rngV_size (n : Nat) (h : Nat → Value) : (rngV n h).size = n := by simp [rngV]
theorem rngV_get {n : Nat} {h : Nat → Value} {i : Nat} (hi : i < n) : (rngV n h)[i]? = some (h i) := by simp [rngV, hi]
theorem rngV_set {n : Nat} {h : Nat → Value} {k : Nat} {v : Value} : (rngV n h).setIfInBounds k v = rngV n (fun x => if x = k then v else h x) := by
  apply Array.ext
  · simp [rngV]
  · intro i h1 h2
    simp only [rngV, List.setIfInBounds_toArray, List.getElem_toArray]
    rw [List.getElem_set]
    by_cases e : k = i
    · subst e; simp
    · rw [if_neg e]; simp [Ne.symm e]
theorem rngV_congr {n : Nat} {h h' : Nat → Value} (he : ∀ i, i < n → h i = h' i) : rngV n h = rngV n h' := by
  unfold rngV
  congr 1
  apply List.map_congr_left
  intro i hi
  exact he i (by simpa using hi)
theorem rngV_rep (n : Nat) (v : Value) : Array.replicate n v = rngV n fun _ => v := by
  apply Array.ext'
  unfold rngV
  rw [Array.toList_replicate]
  simp [List.map_const']
/-- The slices' heads: where they lie, their room. -/
abbrev Heads := Nat → Option Addr × Nat
def headV (H : Heads) (xs : Nat → List Int) (x : Nat) : Value := .slice (H x).1 (xs x).length (H x).2
def rowP (e : Nat) (H : Heads) (xs : Nat → List Int) (x : Nat) : Res := row (headV H xs x) e 1 (xs x).length (ints (xs x))
def rowsP (n e : Nat) (H : Heads) (xs : Nat → List Int) : List Res := (List.range n).map (rowP e H xs)
def restP (n e b : Nat) (H : Heads) (xs : Nat → List Int) : List Res := ((List.range n).eraseIdx b).map (rowP e H xs)
theorem rowsP_get {n e x : Nat} {H : Heads} {xs : Nat → List Int} (h : x < n) : (rowsP n e H xs)[x]? = some (row (.slice (H x).1 (xs x).length (H x).2) e 1 (xs x).length (ints (xs x))) := by
  unfold rowsP
  rw [List.getElem?_map, List.getElem?_range h]
  rfl
theorem rowsP_perm {n e b : Nat} {H : Heads} {xs : Nat → List Int} (h : b < n) : (rowsP n e H xs).Perm (row (.slice (H b).1 (xs b).length (H b).2) e 1 (xs b).length (ints (xs b)) :: restP n e b H xs) := by
  unfold rowsP restP
  have h1 : (List.range n).Perm (b :: (List.range n).eraseIdx b) := by
    rw [List.eraseIdx_eq_take_drop_succ]
    have e1 : List.range n = (List.range n).take b ++ b :: (List.range n).drop (b + 1) := by
      have := split_at (l := List.range n) (i := b) (x := b) (List.getElem?_range h)
      exact this
    rw (occs := .pos [1]) [e1]
    exact List.perm_middle
  exact h1.map _
theorem restP_congr {n e b : Nat} {H H' : Heads} {xs xs' : Nat → List Int} (h : ∀ x, x ≠ b → H x = H' x ∧ xs x = xs' x) : restP n e b H xs = restP n e b H' xs' := by
  unfold restP
  apply List.map_congr_left
  intro x hx
  have hne : x ≠ b := by
    rintro rfl
    have hn : (List.range n).Nodup := List.nodup_range
    by_cases hb : x < n
    · have h1 : (List.range n).Perm (x :: (List.range n).eraseIdx x) := by
        rw [List.eraseIdx_eq_take_drop_succ]
        have e1 : List.range n = (List.range n).take x ++ x :: (List.range n).drop (x + 1) := split_at (l := List.range n) (i := x) (x := x) (List.getElem?_range hb)
        rw (occs := .pos [1]) [e1]
        exact List.perm_middle
      exact (List.nodup_cons.1 (h1.nodup_iff.1 hn)).1 hx
    · have := List.mem_of_mem_eraseIdx hx
      simp at this; omega
  obtain ⟨h1, h2⟩ := h x hne
  unfold rowP headV
  rw [h1, h2]
/-- As many empty ones as are wanted. -/
theorem Hp.nrs {w0 w : World} {B e : Nat} {M L : List Res} (h : Hp w0 B (M ++ L) w) : ∀ n, Hp w0 B (M ++ (L ++ rowsP n e (fun _ => (none, 0)) (fun _ => []))) w
  | 0 => by simpa [rowsP] using h
  | n + 1 => by
    have h1 := Hp.nrs (e := e) h n
    have h2 : Hp w0 B (M ++ (row (.slice none 0 0) e 1 0 [] :: (L ++ rowsP n e (fun _ => (none, 0)) (fun _ => [])))) w := Hp.nr h1
    refine h2.perm (List.Perm.append_left _ ?_)
    have : rowsP (n + 1) e (fun _ => (none, 0)) (fun _ => []) = rowsP n e (fun _ => (none, 0)) (fun _ => []) ++ [row (.slice none 0 0) e 1 0 []] := by
      unfold rowsP
      rw [List.range_succ, List.map_append]; rfl
    rw [this, ← List.append_assoc]
    exact (List.perm_append_singleton _ _).symm
theorem Cd.nrs {C : Ctx} {c : Code} {Q : Exit → Env → List Res → Prop} {σ : Env} {L : List Res} (n e : Nat) (hc : Cd C c Q σ (L ++ rowsP n e (fun _ => (none, 0)) (fun _ => []))) : Cd C c Q σ L := fun a w ha hs => hc a w ha ⟨hs.size, hs.heap.nrs n⟩
end Go.Proofs.YtkefmjhagmacfaaGreatDoor

/- Plain laws behind ir.Right: whether all that is read has a value. -/
namespace Go.Proofs.YtkefmjhagmacfaaGreatDoor
set_option linter.unusedVariables false
open Go Go.RowKit

def okPast : List RIns → Tm → VS → Bool
  | [], t, s => hasV s (needsL t)
  | i :: l, t, s => hasV s (readsL i) && okPast l t (putV s (defI i).toNat true)
/-- What is in a set behind a block's instructions. -/
def outV (l : List RIns) (s : VS) : VS := l.foldl (fun s i => putV s (defI i).toNat true) s
/-- A way from the first block to the begin of another, on which a variable gets no value. -/
inductive Bare (f : RFun) (v : Nat) : Nat → Prop
  | zero : (∀ p ∈ f.params, p.toNat ≠ v) → Bare f v 0
  | step {a b : Nat} {x : RBlk} : Bare f v a → f.blocks[a]? = some x → (∀ i ∈ x.ins, (defI i).toNat ≠ v) → (b : Int) ∈ toL x.term → Bare f v b
open Classical in
noncomputable def valuedF (f : RFun) : Bool := decide (∀ (b : Nat) (x : RBlk) (v : Int), f.blocks[b]? = some x → exposed x.ins x.term v = true → ¬ Bare f v.toNat b)
abbrev IV := Nat → VS
def setI (I : IV) (b : Nat) (s : VS) : IV := fun x => if x = b then s else I x
structure Val (f : RFun) (I : IV) : Prop where
  z : ∀ v, v < 201 → (I 0 v = true ↔ ∃ p ∈ f.params, p.toNat = v)
  b : ∀ b v, v < 201 → I b v = false → Bare f v b
/-- Nothing is turned by a block's edge. -/
def Stab (I : IV) (out : VS) (to : Nat) : Prop := ∀ v, v < 201 → I to v = true → out v = true
/-! ### How much is left -/
def muI (n : Nat) (I : IV) : Nat := ((List.range n).map fun b => cntB 201 (I b)).sum
/-! ### How they lie -/
def sameV (s t : VS) : Bool := (List.range 201).all fun v => s v == t v
def inA (n : Nat) (I : IV) : Array Value := rngV (n * 201) fun q => .bool (I (q / 201) (q % 201))
end Go.Proofs.YtkefmjhagmacfaaGreatDoor

/- The package flow: edges, walked. -/
namespace Go.Proofs.YtkefmjhagmacfaaGreatDoor
set_option linter.unusedVariables false
open Go Go.RowKit
set_option maxRecDepth 100000

theorem RBlk.one (b : RBlk) : ∀ u ∈ b.cells, u.oneCell' = true := by
  intro u hu
  simp only [RBlk.cells, Tm.cells, List.mem_cons, List.not_mem_nil, or_false] at hu
  rcases hu with rfl | rfl | rfl | rfl | rfl <;> rfl
theorem Ed.one (e : Ed) : ∀ u ∈ e.cells, u.oneCell' = true := by
  intro u hu
  simp only [Ed.cells, List.mem_cons, List.not_mem_nil, or_false] at hu
  rcases hu with rfl | rfl | rfl <;> rfl
theorem Ed.one1 (e : Ed) : ∀ u ∈ [e.val].flatMap (fun v => v.cells.toList), u.oneCell' = true := by
  intro u hu
  have hu : u ∈ e.cells := by simpa [Ed.val, Value.cells] using hu
  exact e.one u hu
def ysE (ts : List Tm) : List (List Value) := (edges ts).map fun e => [e.val]
theorem ysE_get {ts : List Tm} {k : Nat} {vs : List Value} (h : (ysE ts)[k]? = some vs) : ∃ e, (edges ts)[k]? = some e ∧ vs = [e.val] ∧ k < (edges ts).length := by
  unfold ysE at h
  rw [List.getElem?_map] at h
  cases hn : (edges ts)[k]? with
  | none => rw [hn] at h; cases h
  | some e => rw [hn] at h; cases h; exact ⟨e, rfl, rfl, (List.getElem?_eq_some_iff.1 hn).1⟩
theorem ysE_len (ts : List Tm) : (ysE ts).length = (edges ts).length := by simp [ysE]
theorem ysE_one {ts : List Tm} : ∀ vs ∈ ysE ts, vs.length = 1 := by
  intro vs hvs
  unfold ysE at hvs
  rw [List.mem_map] at hvs
  obtain ⟨e, _, rfl⟩ := hvs
  rfl
section
def FEachV (g : Nat) : Value := .func (.func 81) #[] #[.pointer (some ⟨g, 0, none⟩)]
theorem flow_each_ct {w : World} {f : RFun} : Ct Tryz.prog 50 #[f.val] w (fun v L => ∃ g, v = FEachV g ∧ L = [blk g (.cells f.cells.toArray 25)]) := by
  refine Ct.mk Tryz.func50 rfl rfl ?_
  refine Cd.seq ?_
  refine Cd.region ?_
  refine Ol.x bxg ?_
  rintro _ _ ⟨g1, rfl, rfl⟩
  refine Ol.p (as_ rfl) ?_
  refine Ol.nil ?_
  refine Cd.seq ?_
  refine Cd.region ?_
  refine Ol.p mkf ?_
  refine Ol.p asf ?_
  refine Ol.nil ?_
  refine Cd.ret ⟨_, ret1 rfl rfl, _, .all, g1, rfl, rfl⟩
set_option maxHeartbeats 1000000 in
theorem flow_each_1_it {w0 : World} {B g : Nat} {f : RFun} (hf : FunAt w0 B f) (hfit : Fit f) : It Tryz.prog w0 B 81 #[.pointer (some ⟨g, 0, none⟩)] [blk g (.cells f.cells.toArray 25)] (ysE f.terms) := by
  intro y J Jx L0 hY h0
  have hbl := hfit.blen
  have htl : f.terms.length = f.blocks.length := by simp [RFun.terms]
  refine Cm.mk Tryz.func81 rfl rfl fun M => ?_
  have hret : ∀ {e : Exit} {σ : Env} {Lj D : List Res}, (e = .ret ∨ e = .normal) → (J (ysE f.terms).length Lj ∨ ∃ k, Jx k Lj) → Out ⟨Tryz.prog, 33, none, w0, B, M⟩ Tryz.f81 (fun _ L => ∃ Own' Lj, L = Own' ++ Lj ∧ (J (ysE f.terms).length Lj ∨ ∃ k, Jx k Lj)) e σ (D ++ Lj) := fun {e σ Lj D} he h => by
    rcases he with rfl | rfl <;> exact ⟨_, ret0 rfl, _, .all, D, Lj, rfl, h⟩
  refine Cd.seq ?_
  refine Cd.region ?_
  refine Ol.p (fdl fd_api_Func_1) ?_
  refine Ol.p (ld one_L_api_Block (Rd.blk (i := 0) rfl rfl)) ?_
  refine Ol.p (lens sl_L_api_Block) ?_
  refine Ol.p mvi ?_
  refine Ol.nil ?_
  refine Cd.block ?_
  refine Cd.loop (fun m σ L => ∃ k Lj, m = f.blocks.length - k ∧ k ≤ f.blocks.length ∧ Has σ [(0, .func (.yield y) #[] #[]), (8, .slice f.bA f.blocks.length f.bC), (9, .int .i64 f.blocks.length), (10, .int .i64 k)] ∧ L = blk g (.cells f.cells.toArray 25) :: Lj ∧ J (edgesTo f.terms k).length Lj) (n := f.blocks.length) ⟨0, L0, rfl, Nat.zero_le _, ⟨rfl, rfl, rfl, rfl, trivial⟩, rfl, h0⟩ ?_
  rintro _ σ L ⟨k, Lj, rfl, hk, hs, rfl, hJ⟩
  refine Cd.has hs ?_
  refine Cd.seq ?_
  refine Cd.region ?_
  refine Ol.p lsi ?_
  refine Ol.nil ?_
  refine Cd.seq ?_
  refine Cd.cond rfl (fun h => ?_) (fun h => ?_)
  · have hlt : k < f.blocks.length := by simpa using h
    obtain ⟨b, hb⟩ : ∃ b, f.blocks[k]? = some b := ⟨_, List.getElem?_eq_getElem hlt⟩
    have ht : f.terms[k]? = some b.term := by simp [RFun.terms, hb]
    refine Cd.skip ?_
    refine Cd.mid (fun σ' L' => ∃ Lj', Has σ' [(0, .func (.yield y) #[] #[]), (8, .slice f.bA f.blocks.length f.bC), (9, .int .i64 f.blocks.length), (10, .int .i64 k)] ∧ L' = blk g (.cells f.cells.toArray 25) :: Lj' ∧ J (edgesTo f.terms (k + 1)).length Lj') ?_ ?_
    · refine Cd.block ?_
      refine Cd.seq ?_
      refine Cd.region ?_
      refine Ol.p mvi ?_
      refine Ol.p (ixn sl_L_api_Block (Som.slc hf.blocks (by omega))) ?_
      refine Ol.p (lds ag_api_Block hf.blocks b.len (fun j u hu => by rw [hf.cell hb (List.getElem?_eq_some_iff.1 hu).1]; exact hu)) ?_
      refine Ol.x (alc zr_api_Block) ?_
      rintro _ _ ⟨g4, rfl, rfl⟩
      refine Ol.p asi ?_
      refine Ol.s (stw sz_api_Block rfl b.one (i := 0) rfl rfl) ?_
      refine Ol.nil ?_
      refine Cd.seq ?_
      refine Cd.region ?_
      refine Ol.p (fdl fd_api_Block_1) ?_
      refine Ol.p (ldp (k := 0 + 1) (vs := b.term.cells.toArray) ag_api_Term (i := 0) rfl rfl (fun j u hu => by rw [Nat.zero_add, Nat.add_comm]; simpa [RBlk.cells] using hu)) ?_
      refine Ol.x (sp_call en_ir_To (fun M' w' hh => ir_To_ct (t := b.term))) ?_
      rintro _ _ ⟨_, rfl, A, c, rfl, rfl⟩
      refine Ol.p (lens sl_L_int) ?_
      refine Ol.p mvi ?_
      refine Ol.nil ?_
      obtain ⟨to, hto⟩ : ∃ to, to = toL b.term := ⟨_, rfl⟩
      have htoL := toL_len b.term
      rw [← hto] at htoL ⊢
      refine Cd.block ?_
      refine Cd.loop (fun m σ L => ∃ j Lj, m = to.length - j ∧ j ≤ to.length ∧ Has σ [(0, .func (.yield y) #[] #[]), (3, .int .i64 k), (8, .slice f.bA f.blocks.length f.bC), (9, .int .i64 f.blocks.length), (10, .int .i64 k), (17, .slice A to.length c), (18, .int .i64 to.length), (19, .int .i64 j)] ∧ L = [row (.slice A to.length c) 3 1 to.length (ints to), blk g4 (.cells b.cells.toArray 49), blk g (.cells f.cells.toArray 25)] ++ Lj ∧ J ((edgesTo f.terms k).length + j) Lj) (n := to.length) ⟨0, Lj, rfl, Nat.zero_le _, ⟨rfl, rfl, rfl, rfl, rfl, rfl, rfl, rfl, trivial⟩, rfl, hJ⟩ ?_
      rintro _ σ L ⟨j, Lj, rfl, hj, hs, rfl, hJ⟩
      refine Cd.has hs ?_
      refine Cd.seq ?_
      refine Cd.region ?_
      refine Ol.p lsi ?_
      refine Ol.nil ?_
      refine Cd.seq ?_
      refine Cd.cond rfl (fun h => ?_) (fun h => ?_)
      · have hjl : j < to.length := by simpa using h
        have hget := ints_get hjl
        have hy1 : (ysE f.terms)[(edgesTo f.terms k).length + j]? = some [.agg #[.int .i64 k, .int .i64 j, .int .i64 to[j]]] := by
          unfold ysE
          rw [List.getElem?_map, edges_get ht (by rw [← hto]; exact List.getElem?_eq_getElem hjl)]
          rfl
        refine Cd.skip ?_
        refine Cd.seq ?_
        refine Cd.block ?_
        refine Cd.seq ?_
        refine Cd.region ?_
        refine Ol.p mvi ?_
        refine Ol.p (ixn1 sl_L_int (Som.row (i := 0) rfl (by omega))) ?_
        refine Ol.p (ld one_int (Rd.row (i := 0) rfl hget)) ?_
        refine Ol.p asi ?_
        refine Ol.p asi ?_
        refine Ol.nil ?_
        refine Cd.seq ?_
        refine Cd.region ?_
        refine Ol.p mvf ?_
        refine Ol.p mvi ?_
        refine Ol.p mvi ?_
        refine Ol.p mvi ?_
        refine Ol.p (bds bs_api_Edge zr_api_Edge) ?_
        refine Ol.x (sp_yield (Own := [row (.slice A to.length c) 3 1 to.length (ints to), blk g4 (.cells b.cells.toArray 49), blk g (.cells f.cells.toArray 25)]) hY hy1 hJ) ?_
        rintro _ _ ⟨bb, Lj', rfl, rfl, ht', hf'⟩
        refine Ol.p noti ?_
        refine Ol.nil ?_
        refine Cd.cond rfl (fun hb => ?_) (fun hb => ?_)
        · have hb' : bb = false := by simpa using hb
          exact Cd.ret (hret (.inl rfl) (.inr ⟨_, hf' hb'⟩))
        · have hb' : bb = true := by simpa using hb
          refine Cd.skip ?_
          refine Cd.region ?_
          refine Ol.p addi ?_
          refine Ol.p mvi ?_
          refine Ol.nil ?_
          exact ⟨to.length - (j + 1), by omega, j + 1, Lj', rfl, by omega, ⟨rfl, rfl, rfl, rfl, rfl, rfl, rfl, rfl, trivial⟩, rfl, ht' hb'⟩
      · have hge : j = to.length := by
          have : ¬ (j : Int) < to.length := by simpa using h
          omega
        refine Cd.keep (L' := blk g (.cells f.cells.toArray 25) :: Lj) (.sub (.cons _ (.cons _ (List.Sublist.refl _)))) ?_
        refine Cd.exit (id := 2) ⟨Lj, ⟨rfl, rfl, rfl, rfl, trivial⟩, rfl, ?_⟩
        rw [edgesTo_succ ht, List.length_append, edgesB_len, ← hto, ← hge]
        exact hJ
    · rintro σ' _ ⟨Lj', hs', rfl, hJ'⟩
      refine Cd.has hs' ?_
      refine Cd.region ?_
      refine Ol.p addi ?_
      refine Ol.p mvi ?_
      refine Ol.nil ?_
      exact ⟨f.blocks.length - (k + 1), by omega, k + 1, Lj', rfl, by omega, ⟨rfl, rfl, rfl, rfl, trivial⟩, rfl, hJ'⟩
  · have hge : k = f.blocks.length := by
      have : ¬ (k : Int) < f.blocks.length := by simpa using h
      omega
    subst hge
    refine Cd.exit (id := 0) ?_
    refine hret (D := [_]) (.inr rfl) (.inl ?_)
    rw [ysE_len]
    unfold edges
    rw [htl]
    exact hJ
end
section
def okE (n : Nat) (e : Ed) : Bool := decide (0 ≤ e.to) && decide (e.to < (n : Int))
theorem uint_ge {a : Int} {n : Nat} (h : -9223372036854775808 ≤ a ∧ a ≤ 9223372036854775807) (hn : n < 2 ^ 50) : decide (IntKind.u64.wrap (n : Int) ≤ IntKind.u64.wrap a) = !(decide (0 ≤ a) && decide (a < (n : Int))) := by
  rw [wrapU, wrapU]
  by_cases h1 : 0 ≤ a <;> by_cases h2 : a < (n : Int) <;> simp [h1, h2] <;> omega
theorem edge_i64 {f : RFun} (hfit : Fit f) {e : Ed} (he : e ∈ edges f.terms) : (-9223372036854775808 ≤ e.to ∧ e.to ≤ 9223372036854775807) ∧ (0 ≤ e.src ∧ e.src < (f.blocks.length : Int)) ∧ (0 ≤ e.arm ∧ e.arm < 2) := by
  obtain ⟨k, j, t, hk, hj, h1, h2⟩ := mem_edges.1 he
  have hkl := (List.getElem?_eq_some_iff.1 hk).1
  unfold RFun.terms at hk hkl
  rw [List.getElem?_map] at hk
  cases hb : f.blocks[k]? with
  | none => rw [hb] at hk; cases hk
  | some b =>
    rw [hb] at hk
    cases hk
    have hbm := List.mem_of_getElem? hb
    have hjl := (List.getElem?_eq_some_iff.1 hj).1
    have hlen := toL_len b.term
    refine ⟨?_, ⟨by omega, by simp at hkl; omega⟩, by omega, by omega⟩
    rcases toL_mem (List.mem_of_getElem? hj) with e | e
    · exact hfit.term b hbm _ (by simp [e])
    · exact hfit.term b hbm _ (by simp [e])
set_option maxHeartbeats 1000000 in
theorem flow_Closed_ct {w : World} {f : RFun} (hf : FunAt w w.heap.size f) (hfit : Fit f) : Ct Tryz.prog 11 #[f.val] w (Is (.bool (closed f.terms))) := by
  have hbl := hfit.blen
  have htl : f.terms.length = f.blocks.length := by simp [RFun.terms]
  refine Ct.mk Tryz.func11 rfl rfl ?_
  refine Cd.seq ?_
  refine Cd.region ?_
  refine Ol.x bxg ?_
  rintro _ _ ⟨g1, rfl, rfl⟩
  refine Ol.x (alc zr_bool) ?_
  rintro _ _ ⟨g2, rfl, rfl⟩
  refine Ol.nil ?_
  refine Cd.seq ?_
  refine Cd.seq ?_
  refine Cd.region ?_
  refine Ol.p (ldw ag_api_Func (i := 1) rfl rfl) ?_
  refine Ol.x (sp_call en_flow_each (fun M w' hh => flow_each_ct (f := f))) ?_
  rintro _ _ ⟨_, rfl, gE, rfl, rfl⟩
  refine Ol.nil ?_
  refine Cd.block ?_
  refine Cd.rf (Own := [blk gE (.cells f.cells.toArray 25)]) (L0 := [blk g2 (.cells #[.bool false] 4), blk g1 (.cells f.cells.toArray 25)])
    (fun k L => L = [blk g2 (.cells #[.bool false] 4), blk g1 (.cells f.cells.toArray 25)] ∧ ∀ i e, i < k → (edges f.terms)[i]? = some e → okE f.blocks.length e = true)
    (fun _ c L => c = .ret ∧ L = [blk g2 (.cells #[.bool false] 4), blk g1 (.cells f.cells.toArray 25)] ∧ closed f.terms = false) (fun _ h => by cases h) en_flow_each_1 (flow_each_1_it hf hfit) (.refl _) ⟨rfl, fun i e h => by omega⟩ ysE_one rfl ?_ ?_ ?_
  · rintro l H k vs Lj hk ⟨rfl, hok⟩
    obtain ⟨e, he, rfl, hlt⟩ := ysE_get hk
    have hem := List.mem_of_getElem? he
    have hei := edge_i64 hfit hem
    refine Cd.region ?_
    refine Ol.x (alc zr_api_Edge) ?_
    rintro _ _ ⟨g3, rfl, rfl⟩
    refine Ol.s (stw sz_api_Edge rfl e.one (i := 0) rfl rfl) ?_
    refine Ol.nil ?_
    intro H' r hr
    refine Cd.block ?_
    refine Cd.seq ?_
    refine Cd.region ?_
    refine Ol.p (fdl fd_api_Edge_2) ?_
    refine Ol.p (ld one_int (Rd.blk (i := 0) rfl rfl)) ?_
    refine Ol.p (cvw in_int in_uint) ?_
    refine Ol.p (fdl fd_api_Func_1) ?_
    refine Ol.p (ld one_L_api_Block (Rd.blk (i := 2) rfl rfl)) ?_
    refine Ol.p (lens sl_L_api_Block) ?_
    refine Ol.p (cvw in_int in_uint) ?_
    refine Ol.p gei ?_
    refine Ol.nil ?_
    refine Cd.cond rfl (fun h => ?_) (fun h => ?_)
    · rw [uint_ge hei.1 hbl] at h
      refine Cd.seq ?_
      refine Cd.region ?_
      refine Ol.s (stv sz_bool (i := 1) rfl rfl) ?_
      refine Ol.keep (.sub (.cons _ (List.Sublist.refl _))) ?_
      refine Ol.nil ?_
      refine Cd.ret ⟨rfl, rfl, ?_⟩
      unfold closed
      have : (edges f.terms).all (fun e => decide (0 ≤ e.to) && decide (e.to < (f.terms.length : Int))) = false := by
        rw [List.all_eq_false]
        refine ⟨e, hem, ?_⟩
        rw [htl]
        simp at h ⊢
        omega
      rw [this]; rfl
    · rw [uint_ge hei.1 hbl] at h
      refine Cd.keep (L' := [blk g2 (.cells #[.bool false] 4), blk g1 (.cells f.cells.toArray 25)]) (.sub (.cons _ (List.Sublist.refl _))) ?_
      refine Cd.skip ⟨rfl, ?_⟩
      intro i e' hi he'
      rcases Nat.lt_or_ge i k with h3 | h3
      · exact hok i e' h3 he'
      · have : i = k := by omega
        subst this
        rw [he] at he'
        cases he'
        unfold okE
        simp at h ⊢
        omega
  · rintro L' ⟨rfl, hok⟩
    have hall : (edges f.terms).all (fun e => decide (0 ≤ e.to) && decide (e.to < (f.terms.length : Int))) = true := by
      rw [List.all_eq_true]
      intro e he
      obtain ⟨i, hi, rfl⟩ := List.getElem_of_mem he
      have := hok i _ (by rw [ysE_len]; exact hi) (List.getElem?_eq_getElem hi)
      rw [htl]; exact this
    refine Cd.seq ?_
    cases h4 : decide ((0 : Int) < (f.blocks.length : Int)) with
    | true =>
      refine Cd.region ?_
      refine Ol.p (fdl fd_api_Func_1) ?_
      refine Ol.p (ld one_L_api_Block (Rd.blk (i := 1) rfl rfl)) ?_
      refine Ol.p (lens sl_L_api_Block) ?_
      refine Ol.p gti ?_
      refine Ol.p mvb ?_
      refine Ol.gp h4 (fdl fd_api_Func_1) ?_
      refine Ol.gp h4 (ld one_L_api_Block (Rd.blk (i := 1) rfl rfl)) ?_
      refine Ol.gp h4 (lens sl_L_api_Block) ?_
      refine Ol.gp h4 lei ?_
      refine Ol.p (pkTb h4) ?_
      refine Ol.s (stv sz_bool (i := 0) rfl rfl) ?_
      refine Ol.nil ?_
      refine Cd.ret ⟨.bool _, retv rfl one_bool rfl (i := 0) rfl rfl, [], .nil, ?_, rfl⟩
      have h4' : 0 < f.blocks.length := by simpa using h4
      unfold closed
      rw [hall, htl]
      simp [h4']
      omega
    | false =>
      refine Cd.region ?_
      refine Ol.p (fdl fd_api_Func_1) ?_
      refine Ol.p (ld one_L_api_Block (Rd.blk (i := 1) rfl rfl)) ?_
      refine Ol.p (lens sl_L_api_Block) ?_
      refine Ol.p gti ?_
      refine Ol.p mvb ?_
      refine Ol.gn h4 ?_
      refine Ol.gn h4 ?_
      refine Ol.gn h4 ?_
      refine Ol.gn h4 ?_
      refine Ol.p (pkFb h4) ?_
      refine Ol.s (stv sz_bool (i := 0) rfl rfl) ?_
      refine Ol.nil ?_
      refine Cd.ret ⟨.bool _, retv rfl one_bool rfl (i := 0) rfl rfl, [], .nil, ?_, rfl⟩
      have h4' : f.blocks.length = 0 := by simpa using h4
      unfold closed
      rw [htl, h4']
      simp
  · rintro k c L' ⟨rfl, rfl, hcl⟩
    refine Cd.ret ⟨.bool _, retv rfl one_bool rfl (i := 0) rfl rfl, [], .nil, ?_, rfl⟩
    rw [hcl]
end
/-- A function value that tells whether something is so of edges. -/
def TellsE (P : Program) (w : World) (g : FuncId) (fst cap : Array Value) (ts : List Tm) (p : Ed → Bool) : Prop := Ent P g ∧ ∀ e ∈ edges ts, ∀ w', Below w.heap.size w w' → Ct P g (fst ++ #[e.val] ++ cap) w' (Is (.bool (p e)))
theorem filter_snoc {ts : List Tm} {p : Ed → Bool} {k : Nat} {e : Ed} (h : (edges ts)[k]? = some e) : ((edges ts).take (k + 1)).filter p = ((edges ts).take k).filter p ++ (if p e = true then [e] else []) := by
  rw [take_snoc_ h, List.filter_append]
  congr 1
  by_cases hp : p e = true <;> simp [hp]
theorem edV_app (a b : List Ed) : edV (a ++ b) = edV a ++ edV b := by simp [edV]
theorem closed_len {ts : List Tm} (h : closed ts = true) : 0 < ts.length ∧ ts.length ≤ 200 ∧ ∀ e ∈ edges ts, 0 ≤ e.to ∧ e.to < (ts.length : Int) := by
  unfold closed at h
  simp only [Bool.and_eq_true, decide_eq_true_eq, List.all_eq_true] at h
  exact ⟨h.1.2, h.2, fun e he => h.1.1 e he⟩
section
set_option maxHeartbeats 1000000 in
theorem flow_some_ct {w : World} {f : RFun} {g : FuncId} {fst cap : Array Value} {p : Ed → Bool} (hf : FunAt w w.heap.size f) (hfit : Fit f) (hp : TellsE Tryz.prog w g fst cap f.terms p) :
    Ct Tryz.prog 52 #[f.val, .func (.func g) fst cap] w (NewL 58 3 (someE f.terms p).length (edV (someE f.terms p))) := by
  have hbl := hfit.blen
  have htl : f.terms.length = f.blocks.length := by simp [RFun.terms]
  refine Ct.mk Tryz.func52 rfl rfl ?_
  refine Cd.seq ?_
  refine Cd.region ?_
  refine Ol.x bxg ?_
  rintro _ _ ⟨g2, rfl, rfl⟩
  refine Ol.x bxf ?_
  rintro _ _ ⟨g3, rfl, rfl⟩
  refine Ol.x (alc zr_L_api_Edge) ?_
  rintro _ _ ⟨g4, rfl, rfl⟩
  refine Ol.nil ?_
  refine Cd.seq ?_
  refine Cd.seq ?_
  refine Cd.region ?_
  refine Ol.p (ldw ag_api_Func (i := 2) rfl rfl) ?_
  refine Ol.s (cl en_flow_Closed (fun M w' hh => flow_Closed_ct (hf.now hh) hfit)) ?_
  refine Ol.p noti ?_
  refine Ol.nil ?_
  refine Cd.cond rfl (fun h => ?_) (fun h => ?_)
  · have hcl : closed f.terms = false := by simpa using h
    refine Cd.seq ?_
    refine Cd.region ?_
    refine Ol.s (stv sz_L_api_Edge (i := 0) rfl rfl) ?_
    refine Ol.nil ?_
    have e : someE f.terms p = [] := by unfold someE; rw [hcl]; rfl
    rw [e]
    refine Cd.nr 58 3 ?_
    refine Cd.ret ⟨.slice none 0 0, retv rfl one_L_api_Edge rfl (i := 1) rfl rfl, _, .sub (.cons_cons _ (.cons _ (.cons _ (.cons _ .slnil)))), none, 0, rfl, rfl⟩
  · have hcl : closed f.terms = true := by simpa using h
    obtain ⟨hpos, hmax, _⟩ := closed_len hcl
    have hel := edgesTo_len_le f.terms f.terms.length
    have e : someE f.terms p = (edges f.terms).filter p := by unfold someE; rw [hcl]; rfl
    rw [e]
    refine Cd.skip ?_
    refine Cd.seq ?_
    refine Cd.seq ?_
    refine Cd.region ?_
    refine Ol.p (ldw ag_api_Func (i := 2) rfl rfl) ?_
    refine Ol.x (sp_call en_flow_each (fun M w' hh => flow_each_ct (f := f))) ?_
    rintro _ _ ⟨_, rfl, gE, rfl, rfl⟩
    refine Ol.nil ?_
    refine Cd.block ?_
    refine Cd.nr 58 3 ?_
    refine Cd.rf (Own := [blk gE (.cells f.cells.toArray 25)]) (L0 := [row (.slice none 0 0) 58 3 0 [], blk g4 (.cells #[.slice none 0 0] 32), blk g3 (.cells #[.func (.func g) fst cap] 66), blk g2 (.cells f.cells.toArray 25)])
      (fun k L => ∃ A c n, n = (((edges f.terms).take k).filter p).length ∧ L = [row (.slice A n c) 58 3 n (edV (((edges f.terms).take k).filter p)), blk g4 (.cells #[.slice A n c] 32), blk g3 (.cells #[.func (.func g) fst cap] 66), blk g2 (.cells f.cells.toArray 25)])
      (fun _ _ _ => False) (fun _ h => by cases h) en_flow_each_1 (flow_each_1_it hf hfit) (.swap _ _ _) ⟨none, 0, 0, rfl, rfl⟩ ysE_one rfl ?_ ?_ (fun _ _ _ h => h.elim)
    · rintro l H k vs Lj hk ⟨A, c, n, hn, rfl⟩
      obtain ⟨e, he, rfl, hlt⟩ := ysE_get hk
      have hem := List.mem_of_getElem? he
      have hnk : n ≤ k := by rw [hn]; exact Nat.le_trans (List.length_filter_le _ _) (by simp; omega)
      have hlt2 : k < 400 := by unfold edges at hlt; omega
      refine Cd.region ?_
      refine Ol.x (alc zr_api_Edge) ?_
      rintro _ _ ⟨g5, rfl, rfl⟩
      refine Ol.s (stw sz_api_Edge rfl e.one (i := 0) rfl rfl) ?_
      refine Ol.nil ?_
      intro H' r hr
      refine Cd.block ?_
      refine Cd.seq ?_
      refine Cd.region ?_
      refine Ol.p (ldv one_func_api_Edge_bool (i := 3) rfl) ?_
      refine Ol.p (ldw ag_api_Edge (i := 0) rfl rfl) ?_
      refine Ol.x (sp_callv hp.1 (fun M w' hh => hp.2 e hem w' hh.below)) ?_
      rintro _ _ ⟨_, rfl, rfl, rfl⟩
      refine Ol.nil ?_
      refine Cd.cond rfl (fun h => ?_) (fun h => ?_)
      · skip
        refine Cd.region ?_
        refine Ol.p (ldv one_L_api_Edge (i := 2) rfl) ?_
        refine Ol.p (ldw ag_api_Edge (i := 0) rfl rfl) ?_
        refine Ol.x (bsn [e.val] sl_L_api_Edge zr_api_Edge (by intro v hv; cases hv with | head => rfl | tail _ h => cases h) rfl (by decide) (by decide)) ?_
        rintro _ _ ⟨g17, rfl, rfl⟩
        refine Ol.x (apn (i := 2) (m := 1) sl_L_api_Edge zr_api_Edge rfl (by decide) rfl (Src.row (i := 0) rfl rfl) e.one1 (by unfold maxLen; omega) (by omega)) ?_
        rintro _ _ ⟨A', c', rfl, rfl⟩
        refine Ol.s (stv sz_L_api_Edge (i := 3) rfl rfl) ?_
        refine Ol.keep (.sub (.cons _ (.cons _ (List.Sublist.refl _)))) ?_
        refine Ol.nil ?_
        refine ⟨A', c', n + 1, ?_, ?_⟩
        · rw [filter_snoc he, if_pos h, List.length_append, ← hn]; rfl
        · rw [filter_snoc he, if_pos h, edV_app]
          rfl
      · refine Cd.keep (.sub (.cons _ (List.Sublist.refl _))) ?_
        refine Cd.skip ⟨A, c, n, ?_, ?_⟩
        · rw [filter_snoc he, if_neg (by rw [h]; simp), List.append_nil]; exact hn
        · rw [filter_snoc he, if_neg (by rw [h]; simp), List.append_nil]
    · rintro L' ⟨A, c, n, hn, rfl⟩
      rw [ysE_len, List.take_length] at hn ⊢
      subst hn
      refine Cd.seq ?_
      refine Cd.region ?_
      refine Ol.p (ldv one_L_api_Edge (i := 1) rfl) ?_
      refine Ol.s (stv sz_L_api_Edge (i := 1) rfl rfl) ?_
      refine Ol.nil ?_
      refine Cd.ret ⟨.slice _ _ _, retv rfl one_L_api_Edge rfl (i := 1) rfl rfl, _, .sub (.cons_cons _ (.cons _ (.cons _ (.cons _ .slnil)))), A, c, rfl, rfl⟩
end
section
theorem flow_Edges_1_ct {w : World} {e : Ed} : Ct Tryz.prog 53 #[e.val] w (Is (.bool true)) := by
  refine Ct.mk Tryz.func53 rfl rfl ?_
  refine Cd.seq ?_
  refine Cd.region ?_
  refine Ol.x bxg ?_
  rintro _ _ ⟨g1, rfl, rfl⟩
  refine Ol.p asb ?_
  refine Ol.nil ?_
  refine Cd.seq ?_
  refine Cd.region ?_
  refine Ol.p asb ?_
  refine Ol.nil ?_
  refine Cd.ret ⟨.bool _, ret1 rfl rfl, [], .nil, rfl, rfl⟩
theorem flow_Edges_ct {w : World} {f : RFun} (hf : FunAt w w.heap.size f) (hfit : Fit f) : Ct Tryz.prog 14 #[f.val] w (NewL 58 3 (someE f.terms fun _ => true).length (edV (someE f.terms fun _ => true))) := by
  refine Ct.mk Tryz.func14 rfl rfl ?_
  refine Cd.seq ?_
  refine Cd.region ?_
  refine Ol.x bxg ?_
  rintro _ _ ⟨g1, rfl, rfl⟩
  refine Ol.p ass ?_
  refine Ol.nil ?_
  refine Cd.seq ?_
  refine Cd.region ?_
  refine Ol.p (ldw ag_api_Func (i := 0) rfl rfl) ?_
  refine Ol.x (sp_call en_flow_some (fun M w' hh => flow_some_ct (g := 53) (fst := #[]) (cap := #[]) (p := fun _ => true) (hf.now hh) hfit ⟨en_flow_Edges_1, fun e he w2 h2 => flow_Edges_1_ct⟩)) ?_
  rintro _ _ ⟨_, rfl, A, c, rfl, rfl⟩
  refine Ol.p ass ?_
  refine Ol.nil ?_
  refine Cd.ret ⟨.slice _ _ _, ret1 rfl rfl, _, .sub (.cons_cons _ (.cons _ .slnil)), A, c, rfl, rfl⟩
end
end Go.Proofs.YtkefmjhagmacfaaGreatDoor

/- The package ir: what is behind a block; long, whole functions: walked. -/
namespace Go.Proofs.YtkefmjhagmacfaaGreatDoor
set_option linter.unusedVariables false
open Go Go.RowKit
set_option maxRecDepth 100000

/-- A function value that tells whether something is so of what a list holds. -/
def TellsG {α : Type} (P : Program) (w : World) (g : FuncId) (fst cap : Array Value) (l : List α) (v : α → Value) (p : α → Bool) : Prop := Ent P g ∧ ∀ x ∈ l, ∀ w', Below w.heap.size w w' → Ct P g (fst ++ #[v x] ++ cap) w' (Is (.bool (p x)))
theorem blk_cell {l : List RBlk} {k j : Nat} {b : RBlk} {u : Value} (hk : l[k]? = some b) (hu : b.cells[j]? = some u) : (l.flatMap RBlk.cells)[k * 5 + j]? = some u := by
  rw [flat_get RBlk.len _ _ _ _ hk (by have := (List.getElem?_eq_some_iff.1 hu).1; rw [RBlk.len] at this; exact this)]; exact hu
end Go.Proofs.YtkefmjhagmacfaaGreatDoor

/- The document's answer of layer 03: instructions, what they read, functions' shape, walked. -/
namespace Go.Proofs.YtkefmjhagmacfaaGreatDoor
set_option linter.unusedVariables false
set_option linter.unusedSimpArgs false
open Go Go.RowKit
set_option maxRecDepth 100000

end Go.Proofs.YtkefmjhagmacfaaGreatDoor

/- The package ir: whole functions, walked. -/
namespace Go.Proofs.YtkefmjhagmacfaaGreatDoor
set_option linter.unusedVariables false
open Go Go.RowKit
set_option maxRecDepth 100000

theorem ints_at {l : List Int} {k : Nat} {n : Int} (h : l[k]? = some n) : (ints l)[k]? = some (.int .i64 n) := by simp [ints, h]
def seenV (l : List Int) : VS := fun j => decide ((j : Int) ∈ l)
end Go.Proofs.YtkefmjhagmacfaaGreatDoor

/- A slice that starts somewhere in a block of one's own, and grows at its end: append. Over any program. -/
namespace Go.Proofs.YtkefmjhagmacfaaGreatDoor
set_option linter.unusedVariables false
open Go Go.RowKit

def Queue (i e n : Nat) (xs : List Value) (L : List Res) : Value → List Res → Prop := fun v L' => ∃ g off c cs, v = .slice (some ⟨g, off, none⟩) n c ∧ L' = L.set i (blk g (.cells cs e)) ∧ off + c ≤ cs.size ∧ n ≤ c ∧ ∀ j u, xs[j]? = some u → cs[off + j]? = some u
section
variable {P : Program} {w0 : World} {B : Nat} {σ : Env} {L : List Res} {d : Option Nat} {ty T : TypeId} {pos : String} {af : Array Edge} {gd : Option (Nat × Bool)} {x y : Operand}
end
end Go.Proofs.YtkefmjhagmacfaaGreatDoor

/- The package ir: which blocks are reached, walked. -/
namespace Go.Proofs.YtkefmjhagmacfaaGreatDoor
set_option linter.unusedVariables false
open Go Go.RowKit
set_option maxRecDepth 100000

end Go.Proofs.YtkefmjhagmacfaaGreatDoor

/- The package ir: whether all that is read has a value; whether a function is right: walked. -/
namespace Go.Proofs.YtkefmjhagmacfaaGreatDoor
set_option linter.unusedVariables false
open Go Go.RowKit
set_option maxRecDepth 100000

end Go.Proofs.YtkefmjhagmacfaaGreatDoor

/- The package ir: whether a function is right, walked. -/
namespace Go.Proofs.YtkefmjhagmacfaaGreatDoor
set_option linter.unusedVariables false
open Go Go.RowKit
set_option maxRecDepth 100000

noncomputable def rightF (f : RFun) : Int := bif longF f then 3 else bif !wholeF f then 2 else bif !okEs f.terms || decide ((orderF f.terms).length < f.blocks.length) then 9 else bif !valuedF f then 8 else 0
end Go.Proofs.YtkefmjhagmacfaaGreatDoor

/- The package flow: edges of blocks, the critical ones, walked. -/
namespace Go.Proofs.YtkefmjhagmacfaaGreatDoor
set_option linter.unusedVariables false
open Go Go.RowKit
set_option maxRecDepth 100000

section
end
section
end

/-- How often a number stands among some. -/
def cnt (l : List Int) (n : Int) : Nat := l.count n
/-- Is an edge critical: one of more out of its block, one of more into its block? -/
def critE (ts : List Tm) (e : Ed) : Bool := decide (1 < cnt ((edges ts).map Ed.to) e.to) && decide (1 < cnt ((edges ts).map Ed.src) e.src)
/-- A map that counts. -/
def Cnts (es : List MapEntry) (l : List Int) : Prop := AllI es ∧ ∀ n, (mget es n).getD (.int .i64 0) = .int .i64 (cnt l n : Int)
section
end
end Go.Proofs.YtkefmjhagmacfaaGreatDoor

/- Counts of edges, their order, unions of what is reached: plain laws. -/
namespace Go.Proofs.YtkefmjhagmacfaaGreatDoor
set_option linter.unusedVariables false
set_option maxRecDepth 10000
open Go Go.RowKit

theorem src_range {ts : List Tm} {e : Ed} (he : e ∈ edges ts) : 0 ≤ e.src ∧ e.src < ts.length ∧ 0 ≤ e.arm ∧ e.arm < 2 := by
  obtain ⟨k, j, t, hk, hj, h1, h2⟩ := mem_edges.1 he
  have := (List.getElem?_eq_some_iff.1 hk).1
  have h3 := (List.getElem?_eq_some_iff.1 hj).1
  have := toL_len t
  omega
def outTo (ts : List Tm) (k : Nat) : Nat := (someE ts fun e => decide (e.src < (k : Int))).length
def inTo (ts : List Tm) (k : Nat) : Nat := (someE ts fun e => decide (e.to < (k : Int))).length
theorem someE_len_le (ts : List Tm) (p : Ed → Bool) : (someE ts p).length ≤ 400 := by
  unfold someE
  cases hc : closed ts with
  | false => simp
  | true =>
    rw [cond_true]
    have h1 := (closed_le hc).2
    have h2 := edgesTo_len_le ts ts.length
    have h3 := List.length_filter_le p (edges ts)
    unfold edges at h3 ⊢
    omega
/-- The critical edges among the first ones. -/
def critTo (ts : List Tm) (k : Nat) : List Ed := ((someE ts fun _ => true).take k).filter (critE ts)
def EdLt (a b : Ed) : Prop := a.src < b.src ∨ (a.src = b.src ∧ a.arm < b.arm)
theorem edV_get {l : List Ed} {k : Nat} {e : Ed} (h : l[k]? = some e) {j : Nat} {u : Value} (hj : e.cells[j]? = some u) : (edV l)[k * 3 + j]? = some u := by
  have hl := (List.getElem?_eq_some_iff.1 hj).1
  unfold edV
  rw [flat_get Ed.len _ _ _ _ h hl]
  exact hj
end Go.Proofs.YtkefmjhagmacfaaGreatDoor

/- Plain laws behind the document's answer of layer 03: rounds over all edges. -/
namespace Go.Proofs.YtkefmjhagmacfaaGreatDoor
set_option linter.unusedVariables false
set_option linter.unusedSimpArgs false
open Go Go.RowKit

def orB (S : Nat → Bool) (t : Nat) (c : Bool) : Nat → Bool := fun i => if i = t then S i || c else S i
def upE (P S : Nat → Bool) (e : Ed) : Nat → Bool := orB S e.to.toNat (S e.src.toNat && P e.src.toNat)
/-- The first m edges are gone along. -/
def passM (P : Nat → Bool) (ts : List Tm) (m : Nat) (S : Nat → Bool) : Nat → Bool := ((edges ts).take m).foldl (upE P) S
def passA (P : Nat → Bool) (ts : List Tm) (S : Nat → Bool) : Nat → Bool := passM P ts (edges ts).length S
theorem orB_mono {S : Nat → Bool} {t : Nat} {c : Bool} {i : Nat} (h : S i = true) : orB S t c i = true := by
  unfold orB
  split
  · rw [h]; rfl
  · exact h
section
variable {P : Nat → Bool} {ts : List Tm}
def Ends (ts : List Tm) (n : Nat) : Prop := ∀ e ∈ edges ts, e.src.toNat < n ∧ e.to.toNat < n
def FixB (P : Nat → Bool) (ts : List Tm) (n : Nat) (S : Nat → Bool) : Prop := ∀ i, i < n → passA P ts S i = S i
theorem cntB_up {n : Nat} {S T : Nat → Bool} (h : ∀ i, i < n → S i = true → T i = true) {i : Nat} (hi : i < n) (hS : S i = false) (hT : T i = true) : cntB n S + 1 ≤ cntB n T := by
  unfold cntB
  have hmem : i ∉ (List.range n).filter S := fun hm => by
    rw [(List.mem_filter.1 hm).2] at hS; cases hS
  have := nodup_le (i :: (List.range n).filter S) ((List.range n).filter T) (List.nodup_cons.2 ⟨hmem, List.Pairwise.filter _ List.nodup_range⟩) (fun x hx => by
    rcases List.mem_cons.1 hx with rfl | hx
    · exact List.mem_filter.2 ⟨by simpa using hi, hT⟩
    · obtain ⟨h1, h2⟩ := List.mem_filter.1 hx
      exact List.mem_filter.2 ⟨h1, h x (by simpa using h1) h2⟩)
  simpa using this
end
theorem ends_of {ts : List Tm} (hc : closed ts = true) : Ends ts ts.length := fun e he => by
  have h1 := src_range he
  have h2 := (closed_len hc).2.2 e he
  omega
def oneB : Nat → Bool := fun i => decide (i = 0)
/-- Does a block give a variable no value? -/
def bareP (f : RFun) (v : Int) (b : Nat) : Bool := match f.blocks[b]? with
  | some x => x.ins.all fun i => !decide (defI i = v)
  | none => false
def openB (f : RFun) (v : Int) : Nat → Bool := fun i => decide (i = 0) && !f.params.contains v
open Classical in
/-- May a variable be without a value where it is read? -/
noncomputable def lacksB (f : RFun) (v : Int) : Bool := decide (∃ (b : Nat) (x : RBlk), f.blocks[b]? = some x ∧ exposed x.ins x.term v = true ∧ Bare f v.toNat b)
end Go.Proofs.YtkefmjhagmacfaaGreatDoor

/- The document's answer of layer 03: a function's length, its shape, what is reached, walked. -/
namespace Go.Proofs.YtkefmjhagmacfaaGreatDoor
set_option linter.unusedVariables false
set_option linter.unusedSimpArgs false
open Go Go.RowKit
set_option maxRecDepth 100000

theorem lt_of {a b : Nat} (h : decide ((a : Int) < (b : Int)) = true) : a < b := by have := of_decide_eq_true h; omega
theorem tm_slc {f : RFun} {b : Nat} {x : RBlk} (hx : f.blocks[b]? = some x) : ∀ (j : Nat) (u : Value), x.term.cells[j]? = some u → (f.blocks.flatMap RBlk.cells)[b * 5 + 1 + j]? = some u := fun j u hu => by
  rw [Nat.add_assoc]
  refine blk_cell hx ?_
  rw [Nat.add_comm]
  simpa [RBlk.cells] using hu
end Go.Proofs.YtkefmjhagmacfaaGreatDoor

/- The document's answer of layer 03: what is reached, walked. -/
namespace Go.Proofs.YtkefmjhagmacfaaGreatDoor
set_option linter.unusedVariables false
set_option linter.unusedSimpArgs false
open Go Go.RowKit
set_option maxRecDepth 100000

theorem boolsL_put {n x : Nat} {S : Nat → Bool} {c : Bool} : (boolsL n S).set x (.bool c) = boolsL n fun i => if i = x then c else S i := by
  apply List.ext_getElem?
  intro i
  rw [List.getElem?_set]
  unfold boolsL
  by_cases h : x = i
  · subst h
    by_cases hl : x < n
    · simp [hl]
    · simp [hl]
  · have h' : ¬ i = x := fun e => h e.symm
    rw [if_neg h, List.getElem?_map, List.getElem?_map]
    by_cases hl : i < n
    · rw [List.getElem?_range hl]
      simp [h']
    · rw [List.getElem?_eq_none (by simp; omega)]
      rfl
theorem boolsL_same {n : Nat} {S T : Nat → Bool} (h : ∀ i, i < n → S i = T i) : boolsL n S = boolsL n T := by
  unfold boolsL
  apply List.map_congr_left
  intro i hi
  rw [h i (by simpa using hi)]
theorem toL_edge {f : RFun} {b j : Nat} {x : RBlk} {n : Int} (hx : f.blocks[b]? = some x) (hn : (toL x.term)[j]? = some n) : (edges f.terms)[(edgesTo f.terms b).length + j]? = some ⟨(b : Int), (j : Int), n⟩ := by
  have ht : f.terms[b]? = some x.term := by unfold RFun.terms; rw [List.getElem?_map, hx]; rfl
  exact edges_get ht hn
theorem edgesTo_next {f : RFun} {b : Nat} {x : RBlk} (hx : f.blocks[b]? = some x) : (edgesTo f.terms (b + 1)).length = (edgesTo f.terms b).length + (toL x.term).length := by
  have ht : f.terms[b]? = some x.term := by unfold RFun.terms; rw [List.getElem?_map, hx]; rfl
  rw [edgesTo_succ ht, List.length_append, edgesB_len]
end Go.Proofs.YtkefmjhagmacfaaGreatDoor

/- Reference 10: edges, walked. -/
namespace Go.Proofs.YtkefmjhagmacfaaGreatDoor
set_option linter.unusedVariables false
set_option linter.unusedSimpArgs false
open Go Go.RowKit
set_option maxRecDepth 100000
theorem edges_len_le (f : RFun) : (edges f.terms).length ≤ 2 * f.blocks.length := by
  have := edgesTo_len_le f.terms f.terms.length
  have htl : f.terms.length = f.blocks.length := by simp [RFun.terms]
  rw [htl] at this
  unfold edges
  rwa [htl]
theorem edV_at {l : List Ed} {k j : Nat} {e : Ed} {u : Value} (h : l[k]? = some e) (hu : e.cells[j]? = some u) : (edV l)[k * 3 + j]? = some u := by
  have hl := (List.getElem?_eq_some_iff.1 hu).1
  unfold edV
  rw [flat_get Ed.len _ _ _ _ h hl]
  exact hu
theorem ge_of_ {a b : Nat} (h : decide ((a : Int) < (b : Int)) = false) : b ≤ a := by
  have := of_decide_eq_false h
  omega
theorem closed_all {f : RFun} (h : 1 ≤ f.blocks.length ∧ f.blocks.length ≤ 200) : closed f.terms = (edges f.terms).all (okE f.blocks.length) := by
  have htl : f.terms.length = f.blocks.length := by simp [RFun.terms]
  unfold closed
  rw [htl, decide_eq_true (by omega : 0 < f.blocks.length), decide_eq_true h.2, Bool.and_true, Bool.and_true]
  rfl
section
set_option maxHeartbeats 2000000 in
theorem ref10_all_ct {w : World} {f : RFun} (hf : FunAt w w.heap.size f) (hfit : Fit f) (hbl : f.blocks.length < 2 ^ 30) : Ct Tryz.prog 51 #[f.val] w (NewL 58 3 (edges f.terms).length (edV (edges f.terms))) := by
  have htl : f.terms.length = f.blocks.length := by simp [RFun.terms]
  have hel := edges_len_le f
  obtain ⟨E, hE⟩ : ∃ E, E = edges f.terms := ⟨_, rfl⟩
  rw [← hE] at hel ⊢
  refine Ct.mk Tryz.func51 rfl rfl ?_
  refine Cd.seq ?_
  refine Cd.region ?_
  refine Ol.x bxg ?_
  rintro _ _ ⟨g1, rfl, rfl⟩
  refine Ol.p ass ?_
  refine Ol.nil ?_
  refine Cd.seq ?_
  refine Cd.region ?_
  refine Ol.p ass ?_
  refine Ol.nil ?_
  refine Cd.nr 58 3 ?_
  refine Cd.seq ?_
  refine Cd.seq ?_
  refine Cd.region ?_
  refine Ol.p asi ?_
  refine Ol.nil ?_
  refine Cd.block ?_   -- 0
  refine Cd.loop (fun m σ L => ∃ (b : Nat) (A : Option Addr) (c n : Nat), m = f.blocks.length - b ∧ b ≤ f.blocks.length ∧ n = (edgesTo f.terms b).length ∧ Has σ [(1, .pointer (some ⟨g1, 0, none⟩)), (3, .slice A n c), (4, .int .i64 b)] ∧ [row (.slice A n c) 58 3 n (edV (E.take n)), blk g1 (.cells f.cells.toArray 25)] = L) (n := f.blocks.length) ⟨0, none, 0, 0, rfl, Nat.zero_le _, by rw [edgesTo_zero]; rfl, ⟨rfl, rfl, rfl, trivial⟩, rfl⟩ ?_
  rintro _ σ L ⟨b, A, c, n, rfl, hb, hn, hs, rfl⟩
  refine Cd.has hs ?_
  clear hs
  refine Cd.seq ?_
  refine Cd.seq ?_
  refine Cd.region ?_
  refine Ol.p mvi ?_
  refine Ol.p (fdl fd_api_Func_1) ?_
  refine Ol.p (ld (v := .slice f.bA f.blocks.length f.bC) one_L_api_Block (Rd.blk (i := 1) rfl rfl)) ?_
  refine Ol.p (lens sl_L_api_Block) ?_
  refine Ol.p lsi ?_
  refine Ol.nil ?_
  refine Cd.cond rfl (fun h => ?_) (fun h => ?_)   -- $11
  · have hlt := lt_of h
    obtain ⟨x, hx⟩ : ∃ x, f.blocks[b]? = some x := ⟨_, List.getElem?_eq_getElem hlt⟩
    have hnb := edgesTo_len_le f.terms b
    obtain ⟨to, hto⟩ : ∃ to, to = toL x.term := ⟨_, rfl⟩
    have hto2 : to.length ≤ 2 := by rw [hto]; exact toL_len _
    refine Cd.skip ?_
    refine Cd.seq ?_
    refine Cd.block ?_   -- 1
    refine Cd.seq ?_
    refine Cd.region ?_
    refine Ol.p (fdl fd_api_Func_1) ?_
    refine Ol.p (ld (v := .slice f.bA f.blocks.length f.bC) one_L_api_Block (Rd.blk (i := 1) rfl rfl)) ?_
    refine Ol.p mvi ?_
    refine Ol.p (ixn (ix := b) sl_L_api_Block (Som.slc hf.blocks (by omega))) ?_
    refine Ol.p (fdp fd_api_Block_1) ?_
    refine Ol.p (lds (es := x.term.cells) ag_api_Term hf.blocks rfl (tm_slc hx)) ?_
    refine Ol.x (sp_call (vs := [x.term.val]) (R := NewL 3 1 to.length (ints to)) en_ref03_To (fun M w' hh => hto ▸ ref03_To_ct (t := x.term))) ?_
    rintro _ _ ⟨_, rfl, A20, c20, rfl, rfl⟩
    refine Ol.p ass ?_
    refine Ol.nil ?_
    refine Cd.seq ?_
    refine Cd.region ?_
    refine Ol.p asi ?_
    refine Ol.nil ?_
    refine Cd.block ?_   -- 2
    refine Cd.loop (fun m σ L => ∃ (j : Nat) (A : Option Addr) (c q : Nat), m = to.length - j ∧ j ≤ to.length ∧ q = n + j ∧ Has σ [(1, .pointer (some ⟨g1, 0, none⟩)), (3, .slice A q c), (4, .int .i64 b), (5, .slice A20 to.length c20), (6, .int .i64 j)] ∧ [row (.slice A20 to.length c20) 3 1 to.length (ints to), row (.slice A q c) 58 3 q (edV (E.take q)), blk g1 (.cells f.cells.toArray 25)] = L) (n := to.length) ⟨0, A, c, n, rfl, Nat.zero_le _, rfl, ⟨rfl, rfl, rfl, rfl, rfl, trivial⟩, rfl⟩ ?_
    rintro _ σ L ⟨j, A', c', q, rfl, hj, hq, hs, rfl⟩
    refine Cd.has hs ?_
    clear hs
    refine Cd.seq ?_
    refine Cd.seq ?_
    refine Cd.region ?_
    refine Ol.p mvi ?_
    refine Ol.p mvs ?_
    refine Ol.p (lens sl_L_int) ?_
    refine Ol.p lsi ?_
    refine Ol.nil ?_
    refine Cd.cond rfl (fun h => ?_) (fun h => ?_)   -- $24
    · have hlt2 := lt_of h
      obtain ⟨t, ht⟩ : ∃ t, to[j]? = some t := ⟨_, List.getElem?_eq_getElem hlt2⟩
      have hed : E[q]? = some ⟨(b : Int), (j : Int), t⟩ := by
        rw [hq, hn, hE]
        exact toL_edge hx (hto ▸ ht)
      refine Cd.skip ?_
      refine Cd.seq ?_
      refine Cd.block ?_   -- 3
      refine Cd.region ?_
      refine Ol.p mvs ?_
      refine Ol.p mvi ?_
      refine Ol.p mvi ?_
      refine Ol.p mvs ?_
      refine Ol.p mvi ?_
      refine Ol.p (ixn1 (ix := j) sl_L_int (Som.row (i := 0) rfl (by omega))) ?_
      refine Ol.p (ld (v := .int .i64 t) one_int (Rd.row (i := 0) rfl (ints_at ht))) ?_
      refine Ol.p (bds (cs := (Ed.cells ⟨(b : Int), (j : Int), t⟩).toArray) bs_api_Edge zr_api_Edge (hf := by kernel_rfl)) ?_
      refine Ol.x (bsn [Ed.val ⟨(b : Int), (j : Int), t⟩] sl_L_api_Edge zr_api_Edge (by intro v hv; cases hv with | head => rfl | tail _ h => cases h) rfl (by decide) (by decide)) ?_
      rintro _ _ ⟨g35, rfl, rfl⟩
      refine Ol.x (apn (i := 2) (n := q) (m := 1) sl_L_api_Edge zr_api_Edge rfl (by decide) rfl (Src.row (i := 0) rfl rfl) (Ed.one1 _) (by unfold maxLen; omega) (by omega)) ?_
      rintro _ _ ⟨A2, c2, rfl, rfl⟩
      refine Ol.p ass ?_
      refine Ol.keep (.sub (.cons _ (List.Sublist.refl _))) ?_
      refine Ol.nil ?_
      refine Cd.region ?_
      refine Ol.p mvi ?_
      refine Ol.p addi ?_
      refine Ol.p asi ?_
      refine Ol.nil ?_
      refine ⟨to.length - (j + 1), by omega, j + 1, A2, c2, q + 1, rfl, by omega, by omega, ⟨rfl, rfl, rfl, rfl, rfl, trivial⟩, ?_⟩
      rw [take_snoc_ hed, edV_app]
      rfl
    have hje : j = to.length := by
      have := ge_of_ h
      omega
    refine Cd.exit (id := 2) ?_
    refine Cd.keep (.sub (.cons _ (List.Sublist.refl _))) ?_
    refine Cd.region ?_
    refine Ol.p mvi ?_
    refine Ol.p addi ?_
    refine Ol.p asi ?_
    refine Ol.nil ?_
    refine ⟨f.blocks.length - (b + 1), by omega, b + 1, A', c', q, rfl, by omega, ?_, ⟨rfl, rfl, rfl, trivial⟩, rfl⟩
    rw [edgesTo_next hx, ← hto, ← hn]
    omega
  have hbe : b = f.blocks.length := by
    have := ge_of_ h
    omega
  have hne : n = E.length := by
    rw [hn, hbe, hE, ← htl]
    rfl
  refine Cd.exit (id := 0) ?_
  refine Cd.seq ?_
  refine Cd.region ?_
  refine Ol.p mvs ?_
  refine Ol.p ass ?_
  refine Ol.nil ?_
  rw [hne, List.take_length]
  exact Cd.ret ⟨.slice A E.length c, ret1 rfl rfl, _, .sub (.cons_cons _ (List.nil_sublist _)), A, c, rfl, rfl⟩
end
section
theorem closed_no {f : RFun} (h : f.blocks.length < 1 ∨ 200 < f.blocks.length) : closed f.terms = false := by
  have htl : f.terms.length = f.blocks.length := by simp [RFun.terms]
  cases hc : closed f.terms with
  | false => rfl
  | true => have := closed_len hc; omega
set_option maxHeartbeats 2000000 in
theorem ref10_Closed_ct {w : World} {f : RFun} (hf : FunAt w w.heap.size f) (hfit : Fit f) : Ct Tryz.prog 12 #[f.val] w (Is (.bool (closed f.terms))) := by
  have htl : f.terms.length = f.blocks.length := by simp [RFun.terms]
  have hbl := hfit.blen
  refine Ct.mk Tryz.func12 rfl rfl ?_
  refine Cd.seq ?_
  refine Cd.region ?_
  refine Ol.x bxg ?_
  rintro _ _ ⟨g1, rfl, rfl⟩
  refine Ol.p asb ?_
  refine Ol.nil ?_
  refine Cd.seq ?_
  refine Cd.mid (fun σ' L' => Has σ' [(1, .pointer (some ⟨g1, 0, none⟩)), (14, .bool (decide ((f.blocks.length : Int) < 1) || decide (200 < (f.blocks.length : Int))))] ∧ [blk g1 (.cells f.cells.toArray 25)] = L') ?_ ?_
  · cases h4 : decide ((f.blocks.length : Int) < 1) with
    | true =>
      refine Cd.region ?_
      refine Ol.p (fdl fd_api_Func_1) ?_
      refine Ol.p (ld (v := .slice f.bA f.blocks.length f.bC) one_L_api_Block (Rd.blk (i := 0) rfl rfl)) ?_
      refine Ol.p (lens sl_L_api_Block) ?_
      refine Ol.p lsi ?_
      refine Ol.p mvb ?_
      refine Ol.gn h4 ?_
      refine Ol.gn h4 ?_
      refine Ol.gn h4 ?_
      refine Ol.gn h4 ?_
      refine Ol.p (pkTb h4) ?_
      refine Ol.nil ?_
      exact ⟨⟨rfl, rfl, trivial⟩, rfl⟩
    | false =>
      refine Cd.region ?_
      refine Ol.p (fdl fd_api_Func_1) ?_
      refine Ol.p (ld (v := .slice f.bA f.blocks.length f.bC) one_L_api_Block (Rd.blk (i := 0) rfl rfl)) ?_
      refine Ol.p (lens sl_L_api_Block) ?_
      refine Ol.p lsi ?_
      refine Ol.p mvb ?_
      refine Ol.gp h4 (fdl fd_api_Func_1) ?_
      refine Ol.gp h4 (ld (v := .slice f.bA f.blocks.length f.bC) one_L_api_Block (Rd.blk (i := 0) rfl rfl)) ?_
      refine Ol.gp h4 (lens sl_L_api_Block) ?_
      refine Ol.gp h4 gti ?_
      refine Ol.p (pkFb h4) ?_
      refine Ol.nil ?_
      exact ⟨⟨rfl, rfl, trivial⟩, rfl⟩
  rintro σ' _ ⟨hs', rfl⟩
  refine Cd.has hs' ?_
  clear hs'
  refine Cd.cond rfl (fun h => ?_) (fun h => ?_)   -- $14
  · have h : (decide ((f.blocks.length : Int) < 1) || decide (200 < (f.blocks.length : Int))) = true := h
    rw [Bool.or_eq_true, decide_eq_true_eq, decide_eq_true_eq] at h
    rw [closed_no (f := f) (by omega)]
    refine Cd.seq ?_
    refine Cd.region ?_
    refine Ol.p asb ?_
    refine Ol.nil ?_
    exact Cd.ret ⟨.bool false, ret1 rfl rfl, [], .nil, rfl, rfl⟩
  have h : (decide ((f.blocks.length : Int) < 1) || decide (200 < (f.blocks.length : Int))) = false := h
  rw [Bool.or_eq_false_iff, decide_eq_false_iff_not, decide_eq_false_iff_not] at h
  have h200 : 1 ≤ f.blocks.length ∧ f.blocks.length ≤ 200 := by omega
  clear h
  have hel := edges_len_le f
  refine Cd.skip ?_
  refine Cd.seq ?_
  refine Cd.region ?_
  refine Ol.p (ldw (cs := f.cells.toArray) ag_api_Func (i := 0) rfl rfl) ?_
  refine Ol.x (sp_call (vs := [f.val]) en_ref10_all (fun M w' hh => ref10_all_ct (hf.now hh) hfit (by omega))) ?_
  rintro _ _ ⟨_, rfl, A16, c16, rfl, rfl⟩
  refine Ol.p ass ?_
  refine Ol.nil ?_
  obtain ⟨E, hE⟩ : ∃ E, E = edges f.terms := ⟨_, rfl⟩
  have hcl : closed f.terms = E.all (okE f.blocks.length) := by
    rw [hE]
    exact closed_all h200
  rw [hcl]
  rw [← hE] at hel ⊢
  refine Cd.seq ?_
  refine Cd.seq ?_
  refine Cd.region ?_
  refine Ol.p asi ?_
  refine Ol.nil ?_
  refine Cd.block ?_   -- 0
  refine Cd.loop (fun m σ L => ∃ k, m = E.length - k ∧ k ≤ E.length ∧ (E.take k).all (okE f.blocks.length) = true ∧ Has σ [(1, .pointer (some ⟨g1, 0, none⟩)), (3, .slice A16 E.length c16), (4, .int .i64 k)] ∧ [row (.slice A16 E.length c16) 58 3 E.length (edV E), blk g1 (.cells f.cells.toArray 25)] = L) (n := E.length) ⟨0, rfl, Nat.zero_le _, rfl, ⟨rfl, rfl, rfl, trivial⟩, rfl⟩ ?_
  rintro _ σ L ⟨k, rfl, hk, hall, hs, rfl⟩
  refine Cd.has hs ?_
  clear hs
  refine Cd.seq ?_
  refine Cd.seq ?_
  refine Cd.region ?_
  refine Ol.p mvi ?_
  refine Ol.p mvs ?_
  refine Ol.p (lens sl_L_api_Edge) ?_
  refine Ol.p lsi ?_
  refine Ol.nil ?_
  refine Cd.cond rfl (fun h => ?_) (fun h => ?_)   -- $20
  · have hlt := lt_of h
    obtain ⟨e, he⟩ : ∃ e, E[k]? = some e := ⟨_, List.getElem?_eq_getElem hlt⟩
    have hto : (edV E)[k * 3 + 2]? = some (.int .i64 e.to) := edV_at he rfl
    refine Cd.skip ?_
    refine Cd.seq ?_
    refine Cd.block ?_   -- 1
    obtain ⟨L0, hL0⟩ : ∃ L0, L0 = [row (.slice A16 E.length c16) 58 3 E.length (edV E), blk g1 (.cells f.cells.toArray 25)] := ⟨_, rfl⟩
    refine Cd.mid (fun σ' L' => Has σ' [(1, .pointer (some ⟨g1, 0, none⟩)), (3, .slice A16 E.length c16), (4, .int .i64 k), (39, .bool (decide (e.to < 0) || decide ((f.blocks.length : Int) ≤ e.to)))] ∧ L0 = L') ?_ ?_
    · subst hL0
      cases h6 : decide (e.to < 0) with
      | true =>
        refine Cd.draw mixed 17 (fun _ => none) (fun _ => []) (by kernel_rfl) (fun _ _ h => by cases h) (fun u hu => ?_)
        refine Wk.p mvs ?_
        refine Wk.p mvi ?_
        refine Wk.p (ixn (ix := k) sl_L_api_Edge (Som.row (i := 0) rfl (by omega))) ?_
        refine Wk.p (fdp fd_api_Edge_2) ?_
        refine Wk.p (ld (v := .int .i64 e.to) one_int (Rd.row (i := 0) rfl hto)) ?_
        refine Wk.p lsi ?_
        refine Wk.p mvb ?_
        refine Wk.gn h6 ?_
        refine Wk.gn h6 ?_
        refine Wk.gn h6 ?_
        refine Wk.gn h6 ?_
        refine Wk.gn h6 ?_
        refine Wk.gn h6 ?_
        refine Wk.gn h6 ?_
        refine Wk.gn h6 ?_
        refine Wk.gn h6 ?_
        refine Wk.p (pkTb h6) ?_
        refine Wk.nil ?_
        refine Ol.nil ?_
        exact ⟨⟨rfl, rfl, rfl, rfl, trivial⟩, rfl⟩
      | false =>
        refine Cd.draw mixed 17 (fun _ => none) (fun _ => []) (by kernel_rfl) (fun _ _ h => by cases h) (fun u hu => ?_)
        refine Wk.p mvs ?_
        refine Wk.p mvi ?_
        refine Wk.p (ixn (ix := k) sl_L_api_Edge (Som.row (i := 0) rfl (by omega))) ?_
        refine Wk.p (fdp fd_api_Edge_2) ?_
        refine Wk.p (ld (v := .int .i64 e.to) one_int (Rd.row (i := 0) rfl hto)) ?_
        refine Wk.p lsi ?_
        refine Wk.p mvb ?_
        refine Wk.gp h6 mvs ?_
        refine Wk.gp h6 mvi ?_
        refine Wk.gp h6 (ixn (ix := k) sl_L_api_Edge (Som.row (i := 0) rfl (by omega))) ?_
        refine Wk.gp h6 (fdp fd_api_Edge_2) ?_
        refine Wk.gp h6 (ld (v := .int .i64 e.to) one_int (Rd.row (i := 0) rfl hto)) ?_
        refine Wk.gp h6 (fdl fd_api_Func_1) ?_
        refine Wk.gp h6 (ld (v := .slice f.bA f.blocks.length f.bC) one_L_api_Block (Rd.blk (i := 1) rfl rfl)) ?_
        refine Wk.gp h6 (lens sl_L_api_Block) ?_
        refine Wk.gp h6 gei ?_
        refine Wk.p (pkFb h6) ?_
        refine Wk.nil ?_
        refine Ol.nil ?_
        exact ⟨⟨rfl, rfl, rfl, rfl, trivial⟩, rfl⟩
    rintro σ' _ ⟨hs', rfl⟩
    refine Cd.has hs' ?_
    clear hs'
    subst hL0
    have hokE : okE f.blocks.length e = !(decide (e.to < 0) || decide ((f.blocks.length : Int) ≤ e.to)) := by
      unfold okE
      by_cases h1 : e.to < 0
      · simp [h1]
        omega
      · by_cases h2 : (f.blocks.length : Int) ≤ e.to
        · simp [h1, h2]
        · simp [h1, h2]
          omega
    refine Cd.cond rfl (fun h => ?_) (fun h => ?_)   -- $39
    · have h : (decide (e.to < 0) || decide ((f.blocks.length : Int) ≤ e.to)) = true := h
      rw [h] at hokE
      have hf0 : E.all (okE f.blocks.length) = false := by
        rw [List.all_eq_false]
        exact ⟨e, List.mem_of_getElem? he, by rw [hokE]; decide⟩
      rw [hf0]
      refine Cd.seq ?_
      refine Cd.region ?_
      refine Ol.p asb ?_
      refine Ol.nil ?_
      exact Cd.ret ⟨.bool false, ret1 rfl rfl, [], .nil, rfl, rfl⟩
    have h : (decide (e.to < 0) || decide ((f.blocks.length : Int) ≤ e.to)) = false := h
    rw [h] at hokE
    refine Cd.skip ?_
    refine Cd.region ?_
    refine Ol.p mvi ?_
    refine Ol.p addi ?_
    refine Ol.p asi ?_
    refine Ol.nil ?_
    refine ⟨E.length - (k + 1), by omega, k + 1, rfl, by omega, ?_, ⟨rfl, rfl, rfl, trivial⟩, rfl⟩
    rw [take_snoc_ he, List.all_append, hall]
    simp [hokE]
  have hke : k = E.length := by
    have := ge_of_ h
    omega
  refine Cd.exit (id := 0) ?_
  rw [hke, List.take_length] at hall
  rw [hall]
  refine Cd.seq ?_
  refine Cd.region ?_
  refine Ol.p asb ?_
  refine Ol.nil ?_
  exact Cd.ret ⟨.bool true, ret1 rfl rfl, [], .nil, rfl, rfl⟩
end
section
theorem ref10_Edges_ct {w : World} {f : RFun} (hf : FunAt w w.heap.size f) (hfit : Fit f) : Ct Tryz.prog 15 #[f.val] w (NewL 58 3 (someE f.terms fun _ => true).length (edV (someE f.terms fun _ => true))) := by
  have htl : f.terms.length = f.blocks.length := by simp [RFun.terms]
  refine Ct.mk Tryz.func15 rfl rfl ?_
  refine Cd.seq ?_
  refine Cd.region ?_
  refine Ol.x bxg ?_
  rintro _ _ ⟨g1, rfl, rfl⟩
  refine Ol.p ass ?_
  refine Ol.nil ?_
  refine Cd.seq ?_
  refine Cd.seq ?_
  refine Cd.region ?_
  refine Ol.p (ldw (cs := f.cells.toArray) ag_api_Func (i := 0) rfl rfl) ?_
  refine Ol.s (cl (v := .bool (closed f.terms)) en_ref10_Closed (fun M w' hh => ref10_Closed_ct (hf.now hh) hfit)) ?_
  refine Ol.p noti ?_
  refine Ol.nil ?_
  refine Cd.cond rfl (fun h => ?_) (fun h => ?_)   -- $5
  · have hcl : closed f.terms = false := by simpa using h
    have e : someE f.terms (fun _ => true) = [] := by unfold someE; rw [hcl]; rfl
    rw [e]
    refine Cd.nr 58 3 ?_
    refine Cd.seq ?_
    refine Cd.region ?_
    refine Ol.p ass ?_
    refine Ol.nil ?_
    exact Cd.ret ⟨.slice none 0 0, ret1 rfl rfl, _, .sub (.cons_cons _ (List.nil_sublist _)), none, 0, rfl, rfl⟩
  have hcl : closed f.terms = true := by simpa using h
  have h200 := closed_len hcl
  have e : someE f.terms (fun _ => true) = edges f.terms := by unfold someE; rw [hcl]; simp
  rw [e]
  refine Cd.skip ?_
  refine Cd.seq ?_
  refine Cd.region ?_
  refine Ol.p (ldw (cs := f.cells.toArray) ag_api_Func (i := 0) rfl rfl) ?_
  refine Ol.x (sp_call (vs := [f.val]) en_ref10_all (fun M w' hh => ref10_all_ct (hf.now hh) hfit (by omega))) ?_
  rintro _ _ ⟨_, rfl, A7, c7, rfl, rfl⟩
  refine Ol.p ass ?_
  refine Ol.nil ?_
  exact Cd.ret ⟨.slice A7 (edges f.terms).length c7, ret1 rfl rfl, _, .sub (.cons_cons _ (List.nil_sublist _)), A7, c7, rfl, rfl⟩
end
section
end
section
end
section
end
end Go.Proofs.YtkefmjhagmacfaaGreatDoor

/- The package flow: what is reached, walked. -/
namespace Go.Proofs.YtkefmjhagmacfaaGreatDoor
set_option linter.unusedVariables false
open Go Go.RowKit
set_option maxRecDepth 100000

theorem intsN_get {l : List Nat} {k n : Nat} (h : l[k]? = some n) : (intsN l)[k]? = some (.int .i64 (n : Int)) := by simp [intsN, h]
section
end
end Go.Proofs.YtkefmjhagmacfaaGreatDoor

/- The package flow: the order of blocks, walked. -/
namespace Go.Proofs.YtkefmjhagmacfaaGreatDoor
set_option linter.unusedVariables false
open Go Go.RowKit
set_option maxRecDepth 100000

theorem foldl_snoc {α β : Type} {f : β → α → β} {l : List α} {k : Nat} {x : α} {a : β} (h : l[k]? = some x) : (l.take (k + 1)).foldl f a = f ((l.take k).foldl f a) x := by
  rw [take_snoc_ h, List.foldl_append]; rfl
section
/-- What the walk in depth owns, and turns. -/
def LL (f : RFun) (gG gF gT gN gO gr : Nat) (st : Dst) : List Res :=
  [blk gG (.cells (enc st.1) 70), blk gF (.cells f.cells.toArray 25), blk gT (.cells #[.func (.func 57) #[] #[.pointer (some ⟨gG, 0, none⟩), .pointer (some ⟨gF, 0, none⟩), .pointer (some ⟨gT, 0, none⟩), .pointer (some ⟨gN, 0, none⟩), .pointer (some ⟨gO, 0, none⟩)]] 71),
   blk gN (.cells #[.int .i64 ((f.blocks.length - st.2.length : Nat) : Int)] 3), blk gO (.cells #[.slice (some ⟨gr, 0, none⟩) f.blocks.length f.blocks.length] 22), blk gr (.cells (outC f.blocks.length st.2) 3)]
/-- What is kept on the way. -/
structure Inv (n d : Nat) (st : Dst) : Prop where
  sm : Sm st.1
  len : st.2.length + d ≤ card st.1 n
set_option maxHeartbeats 1000000 in
theorem flow_Order_1_cm {w0 : World} {B : Nat} {f : RFun} {gG gF gT gN gO gr : Nat} (hf : FunAt w0 B f) (hfit : Fit f) (hcl : closed f.terms = true) : ∀ (fuel : Nat) (st : Dst) (d b : Nat), f.blocks.length - card st.1 f.blocks.length < fuel → Inv f.blocks.length d st → b < f.blocks.length →
    Cm Tryz.prog 57 #[.int .i64 (b : Int), .pointer (some ⟨gG, 0, none⟩), .pointer (some ⟨gF, 0, none⟩), .pointer (some ⟨gT, 0, none⟩), .pointer (some ⟨gN, 0, none⟩), .pointer (some ⟨gO, 0, none⟩)] w0 B (LL f gG gF gT gN gO gr st)
      (fun v L => v = .tuple #[] ∧ L = LL f gG gF gT gN gO gr (dfs f.terms fuel b st) ∧ Inv f.blocks.length d (dfs f.terms fuel b st) ∧ Sub st.1 (dfs f.terms fuel b st).1) := by
  have htl : f.terms.length = f.blocks.length := by simp [RFun.terms]
  obtain ⟨hpos, hmax, hedge⟩ := closed_len hcl
  rw [htl] at hpos hmax
  intro fuel
  induction fuel with
  | zero => intro st d b h; omega
  | succ fuel ih =>
    intro st d b hfuel hinv hb
    obtain ⟨bl, hbl⟩ : ∃ x, f.blocks[b]? = some x := ⟨_, List.getElem?_eq_getElem hb⟩
    have hbm := List.mem_of_getElem? hbl
    have ht : f.terms[b]? = some bl.term := by simp [RFun.terms, hbl]
    have hcard := card_le st.1 f.blocks.length
    refine Cm.mk Tryz.func57 rfl rfl fun M => ?_
    unfold LL
    refine Cd.seq ?_
    refine Cd.seq ?_
    refine Cd.region ?_
    refine Ol.p (ldw ag_bits_Set (i := 0) rfl (enc_size _)) ?_
    refine Ol.p mvi ?_
    refine Ol.s (cl en_bits_Set_Has (fun M w' hh => bits_Set_Has_ct (s := st.1) (n := (b : Int)) (by unfold I64; omega))) ?_
    refine Ol.nil ?_
    have hok : okN (b : Int) = true := by rw [okN_iff]; omega
    have hmb : memb st.1 (b : Int) = st.1.testBit b := by unfold memb; rw [hok]; rfl
    rw [hmb]
    refine Cd.cond rfl (fun h => ?_) (fun h => ?_)
    · have e : dfs f.terms (fuel + 1) b st = st := by simp only [dfs, h, cond_true]
      rw [e]
      exact Cd.ret ⟨_, ret0 rfl, _, .all, rfl, rfl, hinv, Sub.refl _⟩
    refine Cd.skip ?_
    obtain ⟨s1, hs1⟩ : ∃ s1, s1 = withL st.1 [(b : Int)] := ⟨_, rfl⟩
    have hsm1 : Sm s1 := by rw [hs1]; exact withL_sm hinv.sm
    have hgrow : card st.1 f.blocks.length < card s1 f.blocks.length := by rw [hs1]; exact card_with1 hb (by omega) h
    have hcard1 := card_le s1 f.blocks.length
    obtain ⟨to, hto⟩ : ∃ to, to = toL bl.term := ⟨_, rfl⟩
    have htoL : to.length ≤ 2 := by rw [hto]; exact toL_len _
    obtain ⟨go, hgo⟩ : ∃ go : Nat → Dst, go = fun j => (to.take j).foldl (fun st t => dfs f.terms fuel t.toNat st) (s1, st.2) := ⟨_, rfl⟩
    have e : dfs f.terms (fuel + 1) b st = ((go to.length).1, b :: (go to.length).2) := by
      simp only [dfs, h, cond_false, toAt_some ht, hgo, List.take_length, hs1, hto]
    rw [e]
    refine Cd.seq ?_
    refine Cd.region ?_
    refine Ol.p (ldw ag_bits_Set (i := 0) rfl (enc_size _)) ?_
    refine Ol.p mvi ?_
    refine Ol.x (bsv [.int .i64 (b : Int)] sl_L_int zr_int (by simp [Value.cells])) ?_
    rintro _ _ ⟨g14, rfl, rfl⟩
    refine Ol.s (cl en_bits_Set_With (fun M w' hh => bits_Set_With_ct (s := st.1) (l := [(b : Int)]) (Reads.row hh (i := 0) rfl) (by intro n hn; simp at hn; subst hn; unfold I64; omega) (by simp))) ?_
    refine Ol.s (stw sz_bits_Set (enc_size _) (encF_one _) (i := 1) rfl (enc_size _)) ?_
    refine Ol.keep (.sub (.cons _ (List.Sublist.refl _))) ?_
    refine Ol.nil ?_
    rw [← hs1]
    refine Cd.seq ?_
    refine Cd.seq ?_
    refine Cd.region ?_
    refine Ol.p (fdl fd_api_Func_1) ?_
    refine Ol.p (ld one_L_api_Block (Rd.blk (i := 1) rfl rfl)) ?_
    refine Ol.p mvi ?_
    refine Ol.p (ixn sl_L_api_Block (Som.slc hf.blocks (by omega))) ?_
    refine Ol.p (fdp fd_api_Block_1) ?_
    refine Ol.p (lds (es := bl.term.cells) ag_api_Term hf.blocks rfl (fun q u hu => by rw [Nat.add_assoc, hf.cell hbl (j := 1 + q) (by have := (List.getElem?_eq_some_iff.1 hu).1; simp [Tm.cells] at this; omega), Nat.add_comm]; simpa [RBlk.cells] using hu)) ?_
    refine Ol.x (sp_call en_ir_To (fun M' w' hh => ir_To_ct (t := bl.term))) ?_
    rintro _ _ ⟨_, rfl, A, c, rfl, rfl⟩
    refine Ol.p (lens sl_L_int) ?_
    refine Ol.p mvi ?_
    refine Ol.nil ?_
    rw [← hto]
    refine Cd.block ?_
    refine Cd.loop (fun m σ L => ∃ j, m = to.length - j ∧ j ≤ to.length ∧ Has σ [(0, .int .i64 (b : Int)), (3, .pointer (some ⟨gT, 0, none⟩)), (4, .pointer (some ⟨gN, 0, none⟩)), (5, .pointer (some ⟨gO, 0, none⟩)), (22, .slice A to.length c), (23, .int .i64 to.length), (24, .int .i64 j)] ∧ L = [row (.slice A to.length c) 3 1 to.length (ints to)] ++ LL f gG gF gT gN gO gr (go j) ∧ Inv f.blocks.length (d + 1) (go j) ∧ Sub s1 (go j).1) (n := to.length) ⟨0, rfl, Nat.zero_le _, ⟨rfl, rfl, rfl, rfl, rfl, rfl, rfl, trivial⟩, by rw [hgo]; rfl, by rw [hgo]; exact ⟨hsm1, by have := hinv.len; show st.2.length + (d + 1) ≤ card s1 f.blocks.length; omega⟩, by rw [hgo]; exact Sub.refl _⟩ ?_
    rintro _ σ L ⟨j, rfl, hj, hs, rfl, hinv1, hsub1⟩
    refine Cd.has hs ?_
    refine Cd.seq ?_
    refine Cd.region ?_
    refine Ol.p lsi ?_
    refine Ol.nil ?_
    refine Cd.seq ?_
    refine Cd.cond rfl (fun h => ?_) (fun h => ?_)
    · have hjl : j < to.length := by simpa using h
      have hget := ints_get hjl
      have hte : (⟨(b : Int), (j : Int), to[j]⟩ : Ed) ∈ edges f.terms := mem_edges.2 ⟨b, j, bl.term, ht, by rw [← hto]; exact List.getElem?_eq_getElem hjl, rfl, rfl⟩
      have hrng := hedge _ hte
      rw [htl] at hrng
      obtain ⟨q, hq⟩ : ∃ q : Nat, to[j] = (q : Int) := ⟨to[j].toNat, by have : 0 ≤ to[j] := hrng.1; omega⟩
      have hqb : q < f.blocks.length := by have : to[j] < (f.blocks.length : Int) := hrng.2; rw [hq] at this; omega
      have hgo1 : go (j + 1) = dfs f.terms fuel q (go j) := by
        rw [hgo]
        show (to.take (j + 1)).foldl _ _ = _
        rw [foldl_snoc (List.getElem?_eq_getElem hjl), hq]; rfl
      have hfuel1 : f.blocks.length - card (go j).1 f.blocks.length < fuel := by have := card_mono (n := f.blocks.length) hsub1; omega
      rw [hq] at hget
      refine Cd.skip ?_
      refine Cd.seq ?_
      refine Cd.block ?_
      refine Cd.seq ?_
      refine Cd.region ?_
      refine Ol.p (ixn1 sl_L_int (Som.row (i := 0) rfl (by omega))) ?_
      refine Ol.p (ld one_int (Rd.row (i := 0) rfl hget)) ?_
      refine Ol.p asi ?_
      refine Ol.nil ?_
      refine Cd.region ?_
      refine Ol.p (ldv one_func_int (i := 3) rfl) ?_
      refine Ol.p mvi ?_
      refine Ol.x (sp_callvw (vs := [.int .i64 (q : Int)]) (L2 := [row (.slice A to.length c) 3 1 to.length (ints to)]) en_flow_Order_1 (ih (go j) (d + 1) q hfuel1 hinv1 hqb) List.perm_append_comm) ?_
      rintro _ _ ⟨_, rfl, rfl, rfl, hinv2, hsub2⟩
      refine Ol.keep Keep.comm ?_
      refine Ol.nil ?_
      refine Cd.region ?_
      refine Ol.p addi ?_
      refine Ol.p mvi ?_
      refine Ol.nil ?_
      rw [← hgo1] at hinv2 hsub2 ⊢
      exact ⟨to.length - (j + 1), by omega, j + 1, rfl, by omega, ⟨rfl, rfl, rfl, rfl, rfl, rfl, rfl, trivial⟩, rfl, hinv2, hsub1.trans hsub2⟩
    · have hje : j = to.length := by
        have : ¬ (j : Int) < to.length := by simpa using h
        omega
      subst hje
      have hl := hinv1.len
      have hcg := card_le (go to.length).1 f.blocks.length
      refine Cd.keep (L' := LL f gG gF gT gN gO gr (go to.length)) (.sub (.cons _ (List.Sublist.refl _))) ?_
      unfold LL
      refine Cd.exit (id := 0) ?_
      refine Cd.seq ?_
      refine Cd.region ?_
      refine Ol.p (ldv one_int (i := 3) rfl) ?_
      refine Ol.p subi ?_
      refine Ol.s (stv (v := .int .i64 ((f.blocks.length - ((go to.length).2.length + 1) : Nat) : Int)) sz_int (i := 3) rfl (by show Value.int .i64 _ = Value.int .i64 _; congr 1; omega)) ?_
      refine Ol.nil ?_
      refine Cd.region ?_
      refine Ol.p (ldv one_L_int (i := 4) rfl) ?_
      refine Ol.p (ldv one_int (i := 3) rfl) ?_
      refine Ol.p mvi ?_
      refine Ol.p (ixo1 (ix := f.blocks.length - ((go to.length).2.length + 1)) sl_L_int) ?_
      refine Ol.s (sto (k := f.blocks.length - ((go to.length).2.length + 1)) (v := .int .i64 (b : Int)) (.inr sz_int) rfl rfl (i := 5) rfl (by rw [outC_size (by omega)]; omega) rfl) ?_
      refine Ol.nil ?_
      refine ⟨_, ret0 rfl, _, .all, rfl, ?_, ⟨hinv1.sm, ?_⟩, ?_⟩
      · rw [← outC_cons (by omega)]
        rfl
      · show ((go to.length).2.length + 1) + d ≤ card (go to.length).1 f.blocks.length
        omega
      · rw [hs1] at hsub1
        exact (sub_with1 _ _).trans hsub1
set_option maxHeartbeats 1000000 in
/-- The same, its room not less than its length. -/
def PartQ (e n : Nat) (xs : List Value) : Value → List Res → Prop := fun v L => (n = 0 ∧ xs = [] ∧ v = .slice none 0 0 ∧ L = []) ∨ ∃ g k c cs, v = .slice (some ⟨g, k, none⟩) n c ∧ L = [blk g (.cells cs e)] ∧ xs.length = n ∧ (n ≤ c ∧ k + c ≤ cs.size) ∧ ∀ j u, xs[j]? = some u → cs[k + j]? = some u
theorem flow_Order_ct2 {w : World} {f : RFun} (hf : FunAt w w.heap.size f) (hfit : Fit f) : Ct Tryz.prog 22 #[f.val] w (PartQ 3 (orderF f.terms).length (intsN (orderF f.terms))) := by
  have hbl := hfit.blen
  have htl : f.terms.length = f.blocks.length := by simp [RFun.terms]
  refine Ct.mk Tryz.func22 rfl rfl ?_
  refine Cd.seq ?_
  refine Cd.region ?_
  refine Ol.x bxg ?_
  rintro _ _ ⟨g1, rfl, rfl⟩
  refine Ol.p ass ?_
  refine Ol.nil ?_
  refine Cd.seq ?_
  refine Cd.seq ?_
  refine Cd.region ?_
  refine Ol.p (ldw ag_api_Func (i := 0) rfl rfl) ?_
  refine Ol.s (cl en_flow_Closed (fun M w' hh => flow_Closed_ct (hf.now hh) hfit)) ?_
  refine Ol.p noti ?_
  refine Ol.nil ?_
  refine Cd.cond rfl (fun h => ?_) (fun h => ?_)
  · have hcl : closed f.terms = false := by simpa using h
    have e : orderF f.terms = [] := by unfold orderF; rw [hcl]; rfl
    rw [e]
    refine Cd.seq ?_
    refine Cd.region ?_
    refine Ol.p ass ?_
    refine Ol.nil ?_
    exact Cd.ret ⟨.slice none 0 0, ret1 rfl rfl, [], .nil, .inl ⟨rfl, rfl, rfl, rfl⟩⟩
  have hcl : closed f.terms = true := by simpa using h
  obtain ⟨hpos, hmax, hedge⟩ := closed_len hcl
  rw [htl] at hpos hmax
  obtain ⟨st, hst⟩ : ∃ st, st = dfs f.terms (f.blocks.length + 1) 0 (0, []) := ⟨_, rfl⟩
  have eo : orderF f.terms = st.2 := by unfold orderF; rw [hcl, htl, hst]; rfl
  have hlen1 : 0 < st.2.length := by
    rw [hst]
    simp [dfs]
  rw [eo]
  refine Cd.skip ?_
  refine Cd.seq ?_
  refine Cd.region ?_
  refine Ol.x (alc zr_bits_Set) ?_
  rintro _ _ ⟨g3, rfl, rfl⟩
  refine Ol.nil ?_
  refine Cd.seq ?_
  refine Cd.region ?_
  refine Ol.p (fdl fd_api_Func_1) ?_
  refine Ol.p (ld one_L_api_Block (Rd.blk (i := 1) rfl rfl)) ?_
  refine Ol.p (lens sl_L_api_Block) ?_
  refine Ol.x (mks sl_L_int zr_int) ?_
  rintro _ _ ⟨gr, rfl, rfl⟩
  refine Ol.unrow fun cs hcs hcx => ?_
  have hcs' : cs = outC f.blocks.length [] := outC_nil _ hcs hcx
  rw [hcs']
  refine Ol.x (alc zr_L_int) ?_
  rintro _ _ ⟨g4, rfl, rfl⟩
  refine Ol.s (stv sz_L_int (i := 0) rfl rfl) ?_
  refine Ol.nil ?_
  refine Cd.seq ?_
  refine Cd.region ?_
  refine Ol.p (ldv one_L_int (i := 0) rfl) ?_
  refine Ol.p (lens sl_L_int) ?_
  refine Ol.x (alc zr_int) ?_
  rintro _ _ ⟨g5, rfl, rfl⟩
  refine Ol.s (stv sz_int (i := 0) rfl rfl) ?_
  refine Ol.nil ?_
  refine Cd.seq ?_
  refine Cd.region ?_
  refine Ol.x (alc zr_func_int) ?_
  rintro _ _ ⟨g6, rfl, rfl⟩
  refine Ol.nil ?_
  refine Cd.seq ?_
  refine Cd.region ?_
  refine Ol.p mkf ?_
  refine Ol.s (stv sz_func_int (i := 0) rfl rfl) ?_
  refine Ol.nil ?_
  refine Cd.seq ?_
  refine Cd.region ?_
  refine Ol.p (ldv one_func_int (i := 0) rfl) ?_
  refine Ol.x (sp_callvw (vs := [.int .i64 ((0 : Nat) : Int)]) (L2 := []) en_flow_Order_1 (flow_Order_1_cm (gG := g3) (gF := g1) (gT := g6) (gN := g5) (gO := g4) (gr := gr) hf hfit hcl (f.blocks.length + 1) (0, []) 0 0 (by omega) ⟨zero_sm, by simp⟩ hpos) (by rw [List.append_nil]; unfold LL; rw [enc0]; exact List.perm_append_comm (l₁ := [_, _, _, _]) (l₂ := [_, _])) (hargs := rfl)) ?_
  rintro _ _ ⟨_, rfl, rfl, rfl, hinv, _⟩
  refine Ol.nil ?_
  rw [← hst] at hinv ⊢
  have hl := hinv.len
  have hcg := card_le st.1 f.blocks.length
  unfold LL
  refine Cd.seq ?_
  refine Cd.region ?_
  refine Ol.p (ldv one_L_int (i := 4) rfl) ?_
  refine Ol.p (ldv one_int (i := 3) rfl) ?_
  refine Ol.p (slo (n := f.blocks.length) (c := f.blocks.length) sl_L_int (l := f.blocks.length - st.2.length) (by omega) (by omega)) ?_
  refine Ol.p ass ?_
  refine Ol.nil ?_
  rw [show f.blocks.length - (f.blocks.length - st.2.length) = st.2.length by omega]
  refine Cd.ret ⟨.slice _ _ _, ret1 rfl rfl, _, .sub (.cons _ (.cons _ (.cons _ (.cons _ (.cons _ (.cons_cons _ .slnil)))))), .inr ⟨gr, _, _, _, rfl, rfl, by simp [intsN], ⟨Nat.le_refl _, by rw [outC_size (by omega)]; omega⟩, fun j u hu => ?_⟩⟩
  unfold outC
  rw [Nat.zero_add, Nat.mul_one]
  simp only [List.getElem?_toArray]
  rw [List.getElem?_append_right (by simp)]
  simpa using hu
end
end Go.Proofs.YtkefmjhagmacfaaGreatDoor

/- Structs of numbers, compared. -/
namespace Go.Proofs.YtkefmjhagmacfaaGreatDoor
set_option linter.unusedVariables false
open Go Go.RowKit
section
variable {P : Program} {w0 : World} {B : Nat} {σ : Env} {L : List Res} {d : Option Nat} {ty T : TypeId} {pos : String} {af : Array Edge} {gd : Option (Nat × Bool)} {x y z : Operand} {v : Value}
theorem run_eqFields_prim {xs ys : Array Value} {dd : Nat} (w : World) : ∀ fs : List Field, (∀ f ∈ fs, f.name ≠ "_" ∧ ∃ kd a b, primT P f.type kd ∧ xs[f.offset]? = some a ∧ ys[f.offset]? = some b ∧ Tell kd a b) → ∀ r : Bool, (r = true ↔ ∀ f ∈ fs, xs[f.offset]? = ys[f.offset]?) → (Op.eqFields (dd + 1) xs ys fs).run P w = .ok r w
  | [], _, r, hr => by
    have : r = true := hr.2 (by simp)
    simp [Op.eqFields, this]
  | f :: fs, h, r, hr => by
    obtain ⟨hn, kd, a, b, he, ha, hb, q, hs, hq⟩ := h f (by simp)
    have h1 := run_eq_prim (dd := dd) he.1 hs w
    have p1 : (part f.type xs f.offset).run P w = .ok a w := run_part_one he.one ha w
    have p2 : (part f.type ys f.offset).run P w = .ok b w := run_part_one he.one hb w
    simp only [Op.eqFields, hn, ne_eq, not_false_eq_true, if_true, Sem.run_bind, p1, p2, h1, Result.andThen_ok]
    cases q with
    | true =>
      have hab : a = b := hq.1 rfl
      have ih := run_eqFields_prim (dd := dd) w fs (fun j hj => h j (by simp [hj])) r (by
        rw [hr]
        simp [ha, hb, hab])
      simpa using ih
    | false =>
      have hab : a ≠ b := fun e => by have := hq.2 e; cases this
      have : r = false := by
        cases r with
        | false => rfl
        | true =>
          have := hr.1 rfl f (by simp)
          rw [ha, hb] at this
          exact absurd (Option.some.inj this) hab
      simp [this]
/-- A struct of n numbers. -/
def stI (P : Program) (T n : Nat) : Bool := match P.underlying T with
  | some (.struct fs) => fs.toList.all (fun f => (f.name != "_") && ((match P.underlying f.type with | some (.int _) => true | _ => false) && decide ((P.info? f.type).map (·.size) = some 1))) && decide (fs.toList.map (·.offset) = List.range n) && !P.stoodInHeld T && !P.eqGuardType P.depth T
  | _ => false
theorem run_equal_ints {n : Nat} {a b : List Int} (hT : stI P T n = true) (ha : a.length = n) (hb : b.length = n) (w : World) : (Op.equal T (.agg (ints a).toArray) (.agg (ints b).toArray)).run P w = .ok (decide (a = b)) w ∧ P.eqGuardType P.depth T = false := by
  unfold stI at hT
  split at hT
  · rename_i fs hu
    simp only [Bool.and_eq_true, List.all_eq_true, Bool.not_eq_true', decide_eq_true_eq] at hT
    obtain ⟨⟨⟨h1, h2⟩, h3⟩, h4⟩ := hT
    refine ⟨?_, h4⟩
    have hf : P.fieldsOf T = fs := by simp [Program.fieldsOf, hu]
    have := run_equalIn_struct (P := P) w 9999 T (ints a).toArray (ints b).toArray (by rw [hf]; exact hu) h3
    have e : (Op.equal T (.agg (ints a).toArray) (.agg (ints b).toArray)).run P w = (Op.equalIn (9999 + 1) T (.agg (ints a).toArray) (.agg (ints b).toArray)).run P w := rfl
    rw [e, this, hf]
    have hoff : ∀ f ∈ fs.toList, f.offset < n := fun f hf => by
      have : f.offset ∈ fs.toList.map (·.offset) := List.mem_map.2 ⟨f, hf, rfl⟩
      rw [h2] at this
      simpa using this
    have hall : ∀ i, i < n → ∃ f ∈ fs.toList, f.offset = i := fun i hi => by
      have : i ∈ fs.toList.map (·.offset) := by rw [h2]; simpa using hi
      simpa using this
    have hget : ∀ (l : List Int) (i : Nat) (hi : i < l.length), ((ints l).toArray)[i]? = some (.int .i64 l[i]) := fun l i hi => by simp [ints, hi]
    apply run_eqFields_prim (dd := 9998)
    · intro f hf
      obtain ⟨h5, h6, h7⟩ := h1 f hf
      refine ⟨by simpa using h5, ?_⟩
      have ho := hoff f hf
      split at h6
      · rename_i k hk
        exact ⟨.int k, _, _, ⟨hk, rfl, h7⟩, hget a _ (by omega), hget b _ (by omega), Tell.int⟩
      · cases h6
    · rw [decide_eq_true_iff]
      constructor
      · rintro rfl f _; rfl
      · intro h
        apply List.ext_getElem (by omega)
        intro i hi hj
        obtain ⟨f, hf, rfl⟩ := hall i (by omega)
        have := h f hf
        rw [hget a _ hi, hget b _ hj] at this
        simpa using this
  · cases hT
theorem nes {u : TypeId} {n : Nat} {a b : List Int} (hT : stI P T n = true) (ha : a.length = n) (hb : b.length = n) (hx : ev σ x = .agg (ints a).toArray := by exact rfl) (hy : ev σ y = .agg (ints b).toArray := by exact rfl) :
    Sd P w0 B ⟨d, .binOp .neq T x y u, ty, pos, af, gd⟩ σ L (.bool (!decide (a = b))) := sp_val fun w => by
  obtain ⟨h1, h2⟩ := run_equal_ints hT ha hb w
  simp [execOp, hx, hy, binOp, eqGuard_agg h2, h1]
end
theorem st_api_Edge : stI Tryz.prog 58 3 = true := by kernel_rfl
end Go.Proofs.YtkefmjhagmacfaaGreatDoor

/- The law 10: its small functions, walked. -/
namespace Go.Proofs.YtkefmjhagmacfaaGreatDoor
set_option linter.unusedVariables false
open Go Go.RowKit
set_option maxRecDepth 100000


section
theorem ints_eq_of {a b : List Int} (hl : a.length = b.length) (h : ∀ i x y, i < a.length → a[i]? = some x → b[i]? = some y → x = y) : a = b := by
  apply List.ext_getElem hl
  intro i h1 h2
  exact h i _ _ h1 (List.getElem?_eq_getElem h1) (List.getElem?_eq_getElem h2)
theorem kit_SameInts_ct {w : World} {A B : Option Addr} {c d : Nat} {a b : List Int} (ha : Reads w w.heap.size 1 A a.length (ints a)) (hb : Reads w w.heap.size 1 B b.length (ints b)) (hal : a.length < 2 ^ 62) (hbl : b.length < 2 ^ 62) :
    Ct Tryz.prog 24 #[.slice A a.length c, .slice B b.length d] w (Is (.bool (decide (a = b)))) := by
  refine Ct.mk Tryz.func24 rfl rfl ?_
  refine Cd.seq ?_
  refine Cd.region ?_
  refine Ol.p asb ?_
  refine Ol.nil ?_
  refine Cd.seq ?_
  refine Cd.seq ?_
  refine Cd.region ?_
  refine Ol.p mvs ?_
  refine Ol.p (lens sl_L_int) ?_
  refine Ol.p mvs ?_
  refine Ol.p (lens sl_L_int) ?_
  refine Ol.p nei ?_
  refine Ol.nil ?_
  refine Cd.cond rfl (fun h => ?_) (fun h => ?_)
  · refine Cd.seq ?_
    refine Cd.region ?_
    refine Ol.p asb ?_
    refine Ol.nil ?_
    refine Cd.ret ⟨_, ret1 rfl rfl, [], .nil, ?_, rfl⟩
    have hne : a ≠ b := fun e => by subst e; simp at h
    rw [decide_eq_false hne]; rfl
  have hll : a.length = b.length := by
    have : (a.length : Int) = b.length := by simpa using h
    omega
  refine Cd.skip ?_
  refine Cd.seq ?_
  refine Cd.seq ?_
  refine Cd.region ?_
  refine Ol.p asi ?_
  refine Ol.nil ?_
  refine Cd.block ?_
  refine Cd.loop (fun m σ L => ∃ k, m = a.length - k ∧ k ≤ a.length ∧ Has σ [(0, .slice A a.length c), (1, .slice B b.length d), (5, .int .i64 k)] ∧ L = [] ∧ ∀ i x y, i < k → a[i]? = some x → b[i]? = some y → x = y) (n := a.length) ⟨0, rfl, Nat.zero_le _, ⟨rfl, rfl, rfl, trivial⟩, rfl, fun i x y h => by omega⟩ ?_
  rintro _ σ L ⟨k, rfl, hk, hs, rfl, hyes⟩
  refine Cd.has hs ?_
  refine Cd.seq ?_
  refine Cd.seq ?_
  refine Cd.region ?_
  refine Ol.p mvi ?_
  refine Ol.p mvs ?_
  refine Ol.p (lens sl_L_int) ?_
  refine Ol.p lsi ?_
  refine Ol.nil ?_
  refine Cd.cond rfl (fun h => ?_) (fun h => ?_)
  · have hlt : k < a.length := by simpa using h
    have hlt2 : k < b.length := by omega
    refine Cd.skip ?_
    refine Cd.seq ?_
    refine Cd.block ?_
    refine Cd.seq ?_
    refine Cd.draw mixed 9 (fun _ => none) (fun _ => []) (by kernel_rfl) (fun _ _ h => by cases h) (fun u hu => ?_)
    refine Wk.p mvs ?_
    refine Wk.p mvi ?_
    refine Wk.p (ixn1 sl_L_int (Som.slc ha (by omega))) ?_
    refine Wk.p (ld one_int (Rd.slc ha (ints_get hlt))) ?_
    refine Wk.p mvs ?_
    refine Wk.p mvi ?_
    refine Wk.p (ixn1 sl_L_int (Som.slc hb (by omega))) ?_
    refine Wk.p (ld one_int (Rd.slc hb (ints_get hlt2))) ?_
    refine Wk.p nei ?_
    refine Wk.nil ?_
    refine Ol.nil ?_
    refine Cd.cond rfl (fun h2 => ?_) (fun h2 => ?_)
    · refine Cd.seq ?_
      refine Cd.region ?_
      refine Ol.p asb ?_
      refine Ol.nil ?_
      refine Cd.ret ⟨_, ret1 rfl rfl, [], .nil, ?_, rfl⟩
      have hne : a ≠ b := fun e => by subst e; simp at h2
      rw [decide_eq_false hne]; rfl
    · refine Cd.skip ?_
      refine Cd.region ?_
      refine Ol.p mvi ?_
      refine Ol.p addi ?_
      refine Ol.p asi ?_
      refine Ol.nil ?_
      refine ⟨a.length - (k + 1), by omega, k + 1, rfl, by omega, ⟨rfl, rfl, rfl, trivial⟩, rfl, ?_⟩
      intro i x y hi hx hy
      rcases Nat.lt_or_ge i k with h3 | h3
      · exact hyes i x y h3 hx hy
      · have : i = k := by omega
        subst this
        rw [List.getElem?_eq_getElem hlt] at hx
        rw [List.getElem?_eq_getElem hlt2] at hy
        cases hx; cases hy
        simpa using h2
  · have hge : k = a.length := by
      have : ¬ (k : Int) < a.length := by simpa using h
      omega
    subst hge
    refine Cd.exit (id := 0) ?_
    refine Cd.seq ?_
    refine Cd.region ?_
    refine Ol.p asb ?_
    refine Ol.nil ?_
    refine Cd.ret ⟨_, ret1 rfl rfl, [], .nil, ?_, rfl⟩
    rw [decide_eq_true (ints_eq_of hll hyes)]; rfl
end

section
end

section
def Faw (g : Nat) : RFun := ⟨none, 0, [], some ⟨g, 0, none⟩, 3, [⟨none, 0, [], ⟨2, 1, 1, 2⟩⟩, ⟨none, 0, [], ⟨1, 0, 2, 0⟩⟩, ⟨none, 0, [], ⟨4, 0, 0, 0⟩⟩]⟩
def Taw : List Tm := [⟨2, 1, 1, 2⟩, ⟨1, 0, 2, 0⟩, ⟨4, 0, 0, 0⟩]
theorem Reads.none_ {w : World} {B s : Nat} : Reads w B s none 0 [] := ⟨by simp, fun h => absurd h (by omega)⟩
end
end Go.Proofs.YtkefmjhagmacfaaGreatDoor

/- Lists of resources told apart by counting. -/
namespace Go.Proofs.YtkefmjhagmacfaaGreatDoor
theorem perm_count {α : Type} {l l' : List α} (h : ∀ (_ : DecidableEq α) (x : α), l.count x = l'.count x) : l.Perm l' := by
  haveI : DecidableEq α := fun a b => Classical.propDecidable (a = b)
  exact List.perm_iff_count.2 fun x => h _ x
theorem keep_count {L L' : List Res} (D : List Res) (h : ∀ (_ : DecidableEq Res) (x : Res), L.count x = (L' ++ D).count x) : Keep L L' := ⟨D, perm_count h⟩
end Go.Proofs.YtkefmjhagmacfaaGreatDoor

/- Reference 10: the order of blocks, walked. -/
namespace Go.Proofs.YtkefmjhagmacfaaGreatDoor
set_option linter.unusedVariables false
set_option linter.unusedSimpArgs false
open Go Go.RowKit
set_option maxRecDepth 100000
section
theorem ref10_has_ct {w : World} {A : Option Addr} {c : Nat} {l : List Int} {n : Int} (hl : Reads w w.heap.size 1 A l.length (ints l)) (hb : l.length < 2 ^ 62) : Ct Tryz.prog 66 #[.slice A l.length c, .int .i64 n] w (Is (.bool (l.contains n))) := by
  refine Ct.mk Tryz.func66 rfl rfl ?_
  refine Cd.seq ?_
  refine Cd.region ?_
  refine Ol.p asb ?_
  refine Ol.nil ?_
  refine Cd.seq ?_
  refine Cd.seq ?_
  refine Cd.region ?_
  refine Ol.p asi ?_
  refine Ol.nil ?_
  refine Cd.block ?_   -- 0
  refine Cd.loop (fun m σ L => ∃ k, m = l.length - k ∧ k ≤ l.length ∧ (l.take k).contains n = false ∧ Has σ [(0, .slice A l.length c), (1, .int .i64 n), (5, .int .i64 k)] ∧ [] = L) (n := l.length) ⟨0, rfl, Nat.zero_le _, rfl, ⟨rfl, rfl, rfl, trivial⟩, rfl⟩ ?_
  rintro _ σ L ⟨k, rfl, hk, hno, hs, rfl⟩
  refine Cd.has hs ?_
  clear hs
  refine Cd.seq ?_
  refine Cd.seq ?_
  refine Cd.region ?_
  refine Ol.p mvi ?_
  refine Ol.p mvs ?_
  refine Ol.p (lens sl_L_int) ?_
  refine Ol.p lsi ?_
  refine Ol.nil ?_
  refine Cd.cond rfl (fun h => ?_) (fun h => ?_)   -- $9
  · have hlt := lt_of h
    obtain ⟨x, hx⟩ : ∃ x, l[k]? = some x := ⟨_, List.getElem?_eq_getElem hlt⟩
    refine Cd.skip ?_
    refine Cd.seq ?_
    refine Cd.block ?_   -- 1
    refine Cd.seq ?_
    refine Cd.region ?_
    refine Ol.p mvs ?_
    refine Ol.p mvi ?_
    refine Ol.p (ixn1 (ix := k) sl_L_int (Som.slc hl (by omega))) ?_
    refine Ol.p (ld (v := .int .i64 x) one_int (Rd.slc hl (ints_at hx))) ?_
    refine Ol.p mvi ?_
    refine Ol.p eqi ?_
    refine Ol.nil ?_
    refine Cd.cond rfl (fun h => ?_) (fun h => ?_)   -- $17
    · have h : decide (x = n) = true := h
      have hxn := of_decide_eq_true h
      have hc : l.contains n = true := List.contains_iff_mem.2 (by rw [← hxn]; exact List.mem_of_getElem? hx)
      rw [hc]
      refine Cd.seq ?_
      refine Cd.region ?_
      refine Ol.p asb ?_
      refine Ol.nil ?_
      exact Cd.ret ⟨.bool true, ret1 rfl rfl, [], .nil, rfl, rfl⟩
    have h : decide (x = n) = false := h
    have hxn := of_decide_eq_false h
    refine Cd.skip ?_
    refine Cd.region ?_
    refine Ol.p mvi ?_
    refine Ol.p addi ?_
    refine Ol.p asi ?_
    refine Ol.nil ?_
    refine ⟨l.length - (k + 1), by omega, k + 1, rfl, by omega, ?_, ⟨rfl, rfl, rfl, trivial⟩, rfl⟩
    rw [take_snoc_ hx]
    simp only [List.contains_eq_mem, List.mem_append, List.mem_singleton, decide_eq_false_iff_not] at hno ⊢
    rintro (h | h)
    · exact hno h
    · exact hxn h.symm
  have hke : k = l.length := by
    have := ge_of_ h
    omega
  rw [hke, List.take_length] at hno
  rw [hno]
  refine Cd.exit (id := 0) ?_
  refine Cd.seq ?_
  refine Cd.region ?_
  refine Ol.p asb ?_
  refine Ol.nil ?_
  exact Cd.ret ⟨.bool false, ret1 rfl rfl, [], .nil, rfl, rfl⟩
end
/-! ### The walk in depth, along the list of all edges -/
def stepE (ts : List Tm) (fuel : Nat) (b : Nat) (st : Dst) (e : Ed) : Dst := if e.src = (b : Int) then dfs ts fuel e.to.toNat st else st
def BitsL (n s : Nat) (g : List Int) : Prop := (∀ i : Nat, i < n → g.contains (i : Int) = s.testBit i) ∧ g.length ≤ card s n
section
def ThR (ts : List Tm) (n fuel d b : Nat) (st : Dst) (g : List Int) (A1 A2 : Option Addr) (c1 c2 : Nat) : Value → List Res → Prop := fun v L =>
  (st.1.testBit b = true ∧ v = .tuple #[.slice A1 g.length c1, .slice A2 st.2.length c2] ∧ L = []) ∨
  (st.1.testBit b = false ∧ Inv n d (dfs ts fuel b st) ∧ Sub st.1 (dfs ts fuel b st).1 ∧ ∃ (g' : List Int) (A : Option Addr) (c : Nat) (A' : Option Addr) (c' : Nat), BitsL n (dfs ts fuel b st).1 g' ∧ v = .tuple #[.slice A g'.length c, .slice A' (dfs ts fuel b st).2.length c'] ∧ L = [row (.slice A g'.length c) 3 1 g'.length (ints g'), row (.slice A' (dfs ts fuel b st).2.length c') 3 1 (dfs ts fuel b st).2.length (intsN (dfs ts fuel b st).2)])
end
section
end
end Go.Proofs.YtkefmjhagmacfaaGreatDoor

/- Dominators by the walk up a tree: plain laws, of any graph with an order of its nodes in which each node but the first has an edge from one ahead of it. -/
namespace Go.Proofs.YtkefmjhagmacfaaGreatDoor
set_option linter.unusedVariables false

/-- A graph of what is reached (R) from 0, places (pl), a node ahead of each (p0). -/
structure Gra where
  R : Nat → Prop
  E : Nat → Nat → Prop
  pl : Nat → Nat
  p0 : Nat → Nat
  r0 : R 0
  pl0 : pl 0 = 0
  inj : ∀ a b, R a → R b → pl a = pl b → a = b
  par : ∀ c, R c → c ≠ 0 → R (p0 c) ∧ E (p0 c) c ∧ pl (p0 c) < pl c
  fwd : ∀ a b, R a → E a b → R b
def Pr (U : Nat → Int) (b : Nat) : Prop := b = 0 ∨ 0 ≤ U b
structure Tr (G : Gra) (U : Nat → Int) : Prop where
  z : U 0 = -1
  up : ∀ b, 0 ≤ U b → G.R b ∧ G.R (U b).toNat ∧ G.pl (U b).toNat < G.pl b ∧ Pr U (U b).toNat
/-- z stands on the way up from x. -/
inductive Upw (U : Nat → Int) (z : Nat) : Nat → Prop
  | refl : Upw U z z
  | up {x : Nat} : 0 ≤ U x → Upw U z (U x).toNat → Upw U z x
section
variable {G : Gra} {U : Nat → Int} {a b c x y z : Nat}
theorem Upw.le (h : Tr G U) (k : Upw U z x) : z = x ∨ G.pl z < G.pl x := by
  induction k with
  | refl => exact .inl rfl
  | up hx _ ih =>
    have := (h.up _ hx).2.2.1
    rcases ih with rfl | ih
    · exact .inr this
    · exact .inr (by omega)
theorem Upw.ple (h : Tr G U) (k : Upw U z x) : G.pl z ≤ G.pl x := by
  rcases k.le h with rfl | k
  · exact Nat.le_refl _
  · omega
theorem Upw.trans (h : Upw U y x) (k : Upw U z y) : Upw U z x := by
  induction h with
  | refl => exact k
  | up hx _ ih => exact .up hx ih
theorem Upw.pr (h : Tr G U) (hp : Pr U x) (k : Upw U z x) : Pr U z := by
  induction k with
  | refl => exact hp
  | up hx _ ih => exact ih (h.up _ hx).2.2.2
theorem Upw.inv (k : Upw U z x) : z = x ∨ (0 ≤ U x ∧ Upw U z (U x).toNat) := by
  cases k with
  | refl => exact .inl rfl
  | up h1 h2 => exact .inr ⟨h1, h2⟩
theorem Upw.total (h : Tr G U) (k : Upw U y x) (j : Upw U z x) (hl : G.pl y ≤ G.pl z) : Upw U y z := by
  induction j with
  | refl => exact k
  | up hx j ih =>
    rcases k.inv with rfl | ⟨_, k⟩
    · have h1 := (h.up _ hx).2.2.1
      have h2 := j.ple h
      omega
    · exact ih k
theorem Pr.reached (h : Tr G U) (hp : Pr U x) : G.R x := by
  rcases hp with rfl | hp
  · exact G.r0
  · exact (h.up x hp).1
theorem Upw.zero (h : Tr G U) : ∀ (n : Nat) (x : Nat), G.pl x < n → Pr U x → Upw U 0 x
  | 0, _, hn, _ => by omega
  | n + 1, x, hn, hp => by
    rcases hp with rfl | hp
    · exact .refl
    · have h1 := h.up x hp
      exact .up hp (Upw.zero h n _ (by omega) h1.2.2.2)
/-- The last one over two. -/
def Meet (U : Nat → Int) (a b m : Nat) : Prop := Upw U m a ∧ Upw U m b ∧ ∀ z, Upw U z a → Upw U z b → Upw U z m
theorem Meet.same : Meet U a a a := ⟨.refl, .refl, fun _ h _ => h⟩
theorem Meet.left (h : Tr G U) {m : Nat} (ha : 0 ≤ U a) (hl : G.pl b < G.pl a) (k : Meet U (U a).toNat b m) : Meet U a b m :=
  ⟨.up ha k.1, k.2.1, fun z h1 h2 => by
    rcases h1.inv with rfl | ⟨_, h1⟩
    · have := h2.ple h; omega
    · exact k.2.2 z h1 h2⟩
theorem Meet.right (h : Tr G U) {m : Nat} (hb : 0 ≤ U b) (hl : G.pl a < G.pl b) (k : Meet U a (U b).toNat m) : Meet U a b m :=
  ⟨k.1, .up hb k.2.1, fun z h1 h2 => by
    rcases h2.inv with rfl | ⟨_, h2⟩
    · have := h1.ple h; omega
    · exact k.2.2 z h1 h2⟩
theorem Meet.eq (h : Tr G U) (ha : Pr U a) {m m' : Nat} (k : Meet U a b m) (k' : Meet U a b m') : m = m' := by
  have h1 := k.2.2 m' k'.1 k'.2.1
  have h2 := k'.2.2 m k.1 k.2.1
  rcases h1.le h with e | e
  · exact e.symm
  · have := h2.ple h; omega
/-- What an evaluation of some blocks ahead comes to: -1: none of them is known. -/
def Eva (U : Nat → Int) (l : List Nat) (r : Int) : Prop :=
  (r = -1 ∧ ∀ a ∈ l, ¬ Pr U a) ∨ ∃ m : Nat, r = (m : Int) ∧ Pr U m ∧ (∃ a ∈ l, Pr U a) ∧ ∀ z, Upw U z m ↔ ∀ a ∈ l, Pr U a → Upw U z a
theorem Eva.nil : Eva U [] (-1) := .inl ⟨rfl, fun a h => (by cases h)⟩
theorem Eva.skip {l : List Nat} {r : Int} (h : Eva U l r) (ha : ¬ Pr U a) : Eva U (l ++ [a]) r := by
  rcases h with ⟨h1, h2⟩ | ⟨m, h1, h2, ⟨q, hq, hq2⟩, h3⟩
  · refine .inl ⟨h1, fun c hc => ?_⟩
    rcases List.mem_append.1 hc with hc | hc
    · exact h2 c hc
    · have : c = a := by simpa using hc
      subst this; exact ha
  · refine .inr ⟨m, h1, h2, ⟨q, by simp [hq], hq2⟩, fun z => ?_⟩
    rw [h3]
    constructor
    · intro h c hc hp
      rcases List.mem_append.1 hc with hc | hc
      · exact h c hc hp
      · have : c = a := by simpa using hc
        subst this; exact absurd hp ha
    · intro h c hc hp
      exact h c (by simp [hc]) hp
theorem Eva.first {l : List Nat} (h : Eva U l (-1)) (ha : Pr U a) : Eva U (l ++ [a]) (a : Int) := by
  rcases h with ⟨_, h2⟩ | ⟨m, h1, _⟩
  · refine .inr ⟨a, rfl, ha, ⟨a, by simp, ha⟩, fun z => ⟨fun h c hc hp => ?_, fun h => h a (by simp) ha⟩⟩
    rcases List.mem_append.1 hc with hc | hc
    · exact absurd hp (h2 c hc)
    · have : c = a := by simpa using hc
      subst this; exact h
  · omega
theorem Eva.meet (ht : Tr G U) {l : List Nat} {q m : Nat} (h : Eva U l (q : Int)) (ha : Pr U a) (hm : Meet U q a m) : Eva U (l ++ [a]) (m : Int) := by
  rcases h with ⟨h1, _⟩ | ⟨q', h1, h2, ⟨p, hp, hp2⟩, h3⟩
  · omega
  · have : q' = q := by omega
    subst this
    refine .inr ⟨m, rfl, hm.1.pr ht h2, ⟨p, by simp [hp], hp2⟩, fun z => ⟨fun h c hc hpc => ?_, fun h => ?_⟩⟩
    · rcases List.mem_append.1 hc with hc | hc
      · exact (h3 z).1 (hm.1.trans h) c hc hpc
      · have : c = a := by simpa using hc
        subst this; exact hm.2.1.trans h
    · exact hm.2.2 z ((h3 z).2 fun c hc hpc => h c (by simp [hc]) hpc) (h a (by simp) ha)
end

/-! ### Dominators -/
/-- A way from 0 to x that avoids d. -/
inductive Av (G : Gra) (d : Nat) : Nat → Prop
  | zero : d ≠ 0 → Av G d 0
  | step {a x : Nat} : Av G d a → G.E a x → x ≠ d → Av G d x
def Dom (G : Gra) (d x : Nat) : Prop := G.R x ∧ ¬ Av G d x
theorem Av.reached {G : Gra} {d x : Nat} (h : Av G d x) : G.R x := by
  induction h with
  | zero _ => exact G.r0
  | step _ h2 _ ih => exact G.fwd _ _ ih h2
theorem Av.ne {G : Gra} {d x : Nat} (h : Av G d x) : x ≠ d := by
  cases h with
  | zero h => exact fun e => h e.symm
  | step _ _ h => exact h
theorem Dom.pred {G : Gra} {d x a : Nat} (h : Dom G d x) (hne : d ≠ x) (ha : G.R a) (he : G.E a x) : Dom G d a :=
  ⟨ha, fun hv => h.2 (.step hv he (fun e => hne e.symm))⟩
/-- A way along the nodes ahead. -/
inductive TP (G : Gra) (b : Nat) : Nat → Prop
  | refl : TP G b b
  | step {x : Nat} : G.R x → x ≠ 0 → TP G b (G.p0 x) → TP G b x
theorem TP.trans {G : Gra} {a b c : Nat} (h : TP G a b) (k : TP G b c) : TP G a c := by
  induction k with
  | refl => exact h
  | step h1 h2 _ ih => exact .step h1 h2 ih
theorem TP.ple {G : Gra} {b x : Nat} (h : TP G b x) : G.pl b ≤ G.pl x := by
  induction h with
  | refl => exact Nat.le_refl _
  | step h1 h2 _ ih => have := (G.par _ h1 h2).2.2; omega
theorem TP.av {G : Gra} {b x d : Nat} (h : TP G b x) (hd : G.pl d < G.pl b) (hv : Av G d b) : Av G d x := by
  induction h with
  | refl => exact hv
  | step h1 h2 hp ih =>
    have h3 := (G.par _ h1 h2)
    have h4 := hp.ple
    exact .step ih h3.2.1 (fun e => by subst e; omega)

/-! ### Going over all blocks -/
def setU (U : Nat → Int) (b : Nat) (r : Int) : Nat → Int := fun x => if x = b then r else U x
/-- While a pass goes on: blocks whose place is below k have been evaluated in it. -/
structure Ps (G : Gra) (pre : Nat → List Nat) (U : Nat → Int) (k : Nat) : Prop where
  tr : Tr G U
  j0 : ∀ c, 0 ≤ U c → ∀ z, (∀ a ∈ pre c, Pr U a → Upw U z a) → G.pl z ≤ G.pl (U c).toNat
  j1 : ∀ c, 0 ≤ U c → k ≤ G.pl c → Upw U (U c).toNat (G.p0 c) ∨ (G.pl (U c).toNat < k ∧ ∀ y, Upw U y (G.p0 c) → G.pl y ≤ G.pl (U c).toNat → Upw U y (U c).toNat)
  j2 : ∀ c, 0 ≤ U c → G.pl c < k → Upw U (U c).toNat (G.p0 c)
  j3 : ∀ x d, Pr U x → Dom G d x → Upw U d x
  j4 : ∀ c, 0 ≤ U c → TP G (U c).toNat c
  j5 : ∀ c, G.R c → G.pl c < k → Pr U c
  j6 : ∀ c, 0 ≤ U c → Pr U (G.p0 c)
  j7 : ∀ c, U c = -1 ∨ 0 ≤ U c
section
variable {G : Gra} {pre : Nat → List Nat} {U : Nat → Int} {k : Nat}
theorem Ps.start (hp : ∀ c, c = 0 ∨ G.pl c ≠ 0 ∨ ¬ G.R c) : Ps G pre (fun _ => -1) 1 := by
  have no : ∀ c : Nat, ¬ (0 ≤ (fun _ : Nat => (-1 : Int)) c) := by intro c h; simp at h
  refine ⟨⟨rfl, fun b h => absurd h (no b)⟩, fun c h => absurd h (no c), fun c h => absurd h (no c), fun c h => absurd h (no c), ?_, fun c h => absurd h (no c), ?_, fun c h => absurd h (no c), fun c => .inl rfl⟩
  · rintro x d (rfl | h) hd
    · by_cases e : d = 0
      · subst e; exact .refl
      · exact absurd (Av.zero e) hd.2
    · exact absurd h (no x)
  · intro c hr hc
    rcases hp c with h | h | h
    · exact .inl h
    · omega
    · exact absurd hr h
/-- A pass is over: the next one begins. -/
theorem Ps.again {n : Nat} (h : Ps G pre U n) (hall : ∀ c, G.R c → G.pl c < n) (hp : ∀ c, c = 0 ∨ G.pl c ≠ 0 ∨ ¬ G.R c) : Ps G pre U 1 := by
  refine ⟨h.tr, h.j0, fun c hc _ => .inl (h.j2 c hc (hall c (h.tr.up c hc).1)), fun c hc hl => ?_, h.j3, h.j4, ?_, h.j6, h.j7⟩
  · rcases hp c with e | e | e
    · subst e; have := h.tr.z; omega
    · omega
    · exact absurd (h.tr.up c hc).1 e
  · intro c hr hc
    rcases hp c with e | e | e
    · exact .inl e
    · omega
    · exact absurd hr e
theorem TP.of_anc (ht : Tr G U) (h4 : ∀ c, 0 ≤ U c → TP G (U c).toNat c) {z x : Nat} (h : Upw U z x) : TP G z x := by
  induction h with
  | refl => exact .refl
  | up hx _ ih => exact ih.trans (h4 _ hx)
/-- What a block is told lies on the way up from what it was. -/
theorem Ps.shrinks {b m : Nat} (h : Ps G pre U k) (hb : G.R b) (hb0 : b ≠ 0) (hk : G.pl b = k) (hpre : G.p0 b ∈ pre b) (hU : 0 ≤ U b) (hm : Eva U (pre b) (m : Int)) : Upw U m (U b).toNat := by
  rcases hm with ⟨h1, _⟩ | ⟨m', h1, h2, _, h3⟩
  · omega
  · have : m' = m := by omega
    subst this
    have hp : Pr U (G.p0 b) := h.j6 b hU
    have hmp : Upw U m' (G.p0 b) := (h3 m').1 .refl _ hpre hp
    have hle : G.pl m' ≤ G.pl (U b).toNat := h.j0 b hU m' fun a ha hpa => (h3 m').1 .refl a ha hpa
    rcases h.j1 b hU (by omega) with h4 | ⟨_, h4⟩
    · exact hmp.total h.tr h4 hle
    · exact h4 m' hmp hle
/-- Nothing is turned: the next one. -/
theorem Ps.keep {b : Nat} (h : Ps G pre U k) (hb : G.R b) (hb0 : b ≠ 0) (hk : G.pl b = k) (hpre : G.p0 b ∈ pre b) (hm : Eva U (pre b) (U b)) : Ps G pre U (k + 1) := by
  have hpar := G.par b hb hb0
  have hpp : Pr U (G.p0 b) := h.j5 _ hpar.1 (by omega)
  have hU : 0 ≤ U b := by
    rcases hm with ⟨_, h2⟩ | ⟨m, h1, _⟩
    · exact absurd hpp (h2 _ hpre)
    · omega
  have hanc : Upw U (U b).toNat (G.p0 b) := by
    rcases hm with ⟨_, h2⟩ | ⟨m, h1, _, _, h3⟩
    · exact absurd hpp (h2 _ hpre)
    · rw [h1, Int.toNat_natCast]
      exact (h3 m).1 .refl _ hpre hpp
  have hone : ∀ c, G.R c → G.pl c = k → c = b := fun c hc e => G.inj c b hc hb (by omega)
  refine ⟨h.tr, h.j0, fun c hc hl => ?_, fun c hc hl => ?_, h.j3, h.j4, fun c hr hl => ?_, h.j6, h.j7⟩
  · exact (h.j1 c hc (by omega)).imp id fun ⟨h1, h2⟩ => ⟨by omega, h2⟩
  · by_cases e : G.pl c = k
    · have := hone c (h.tr.up c hc).1 e
      subst this; exact hanc
    · exact h.j2 c hc (by omega)
  · by_cases e : G.pl c = k
    · have := hone c hr e
      subst this; exact .inr hU
    · exact h.j5 c hr (by omega)
section
variable {b m : Nat}
theorem setU_same (U : Nat → Int) (b : Nat) (r : Int) : setU U b r b = r := by simp [setU]
theorem setU_other {U : Nat → Int} {b x : Nat} {r : Int} (h : x ≠ b) : setU U b r x = U x := by simp [setU, h]
theorem anc_set_of {r : Int} {z x : Nat} (hb : ¬ Upw U b x) (h : Upw U z x) : Upw (setU U b r) z x := by
  induction h with
  | refl => exact .refl
  | @up x hx _ ih =>
    have hne : x ≠ b := fun e => hb (by subst e; exact .refl)
    refine .up (by rw [setU_other hne]; exact hx) ?_
    rw [setU_other hne]
    exact ih fun h => hb (.up hx h)
theorem anc_of_set {r : Int} {z x : Nat} (hb : ¬ Upw U b x) (h : Upw (setU U b r) z x) : Upw U z x := by
  induction h with
  | refl => exact .refl
  | @up x hx _ ih =>
    have hne : x ≠ b := fun e => hb (by subst e; exact .refl)
    rw [setU_other hne] at hx ih
    exact .up hx (ih fun h => hb (.up hx h))
theorem anc_set_upper {r : Int} (ht : Tr G U) {z x : Nat} (hz : Upw U z x) (hbz : Upw U b z) : Upw (setU U b r) z x := by
  induction hz with
  | refl => exact .refl
  | @up x hx hz ih =>
    have hne : x ≠ b := fun e => by
      subst e
      have h1 := hz.ple ht
      have h2 := (ht.up x hx).2.2.1
      have h3 := hbz.ple ht
      omega
    refine .up (by rw [setU_other hne]; exact hx) ?_
    rw [setU_other hne]
    exact ih
/-- What is turned. -/
structure Tn (G : Gra) (U : Nat → Int) (b m : Nat) : Prop where
  lt : G.pl m < G.pl b
  bel : ∀ z, Upw (setU U b m) z b ↔ z = b ∨ Upw U z m
  fwd : ∀ z x, x ≠ b → Pr U x → Upw (setU U b m) z x → Upw U z x
  upper : ∀ z x, Upw U z x → Upw U b x → G.pl b ≤ G.pl z → Upw (setU U b m) z x
  lower : ∀ z x, Upw U b x → Upw U z m → Upw (setU U b m) z x
theorem Tn.mk' (h : Ps G pre U k) (hb : G.R b) (hb0 : b ≠ 0) (hk : G.pl b = k) (hpre : G.p0 b ∈ pre b) (hm : Eva U (pre b) (m : Int)) : Tn G U b m := by
  have hpar := G.par b hb hb0
  have hpp : Pr U (G.p0 b) := h.j5 _ hpar.1 (by omega)
  obtain ⟨hpm, hanc⟩ : Pr U m ∧ Upw U m (G.p0 b) := by
    rcases hm with ⟨_, h2⟩ | ⟨m', h1, h2, _, h3⟩
    · exact absurd hpp (h2 _ hpre)
    · have : m' = m := by omega
      subst this
      exact ⟨h2, (h3 m').1 .refl _ hpre hpp⟩
  have hlt : G.pl m < G.pl b := by have := hanc.ple h.tr; omega
  have hnb : ¬ Upw U b m := fun e => by have := e.ple h.tr; omega
  have hbel : ∀ z, Upw (setU U b m) z b ↔ z = b ∨ Upw U z m := by
    intro z
    constructor
    · intro hz
      rcases hz.inv with e | ⟨_, hz⟩
      · exact .inl e
      · rw [setU_same, Int.toNat_natCast] at hz
        exact .inr (anc_of_set hnb hz)
    · rintro (rfl | hz)
      · exact .refl
      · refine .up (by rw [setU_same]; omega) ?_
        rw [setU_same, Int.toNat_natCast]
        exact anc_set_of hnb hz
  refine ⟨hlt, hbel, ?_, ?_, ?_⟩
  · intro z x hx hpx hz
    rcases h.j7 b with hU | hU
    · have hnb : ¬ Upw U b x := fun e => by
        rcases e.pr h.tr hpx with e | e
        · exact hb0 e
        · omega
      exact anc_of_set hnb hz
    · have hsh := h.shrinks hb hb0 hk hpre hU hm
      clear hx hpx
      induction hz with
      | refl => exact .refl
      | @up x hx _ ih =>
        by_cases e : x = b
        · subst e
          rw [setU_same, Int.toNat_natCast] at ih
          exact .up hU (hsh.trans ih)
        · rw [setU_other e] at hx ih
          exact .up hx ih
  · intro z x hz hbx hl
    exact anc_set_upper h.tr hz (hbx.total h.tr hz hl)
  · intro z x hbx hz
    exact (anc_set_upper h.tr hbx .refl).trans ((hbel z).2 (.inr hz))
theorem Ps.turn (h : Ps G pre U k) (hb : G.R b) (hb0 : b ≠ 0) (hk : G.pl b = k) (hpre : ∀ a, a ∈ pre b ↔ G.E a b) (hm : Eva U (pre b) (m : Int)) : Ps G pre (setU U b m) (k + 1) := by
  have hpar := G.par b hb hb0
  have hp0m : G.p0 b ∈ pre b := (hpre _).2 hpar.2.1
  have hpp : Pr U (G.p0 b) := h.j5 _ hpar.1 (by omega)
  have T := Tn.mk' h hb hb0 hk hp0m hm
  obtain ⟨hpm, hev⟩ : Pr U m ∧ ∀ z, Upw U z m ↔ ∀ a ∈ pre b, Pr U a → Upw U z a := by
    rcases hm with ⟨_, h2⟩ | ⟨m', h1, h2, _, h3⟩
    · exact absurd hpp (h2 _ hp0m)
    · have : m' = m := by omega
      subst this
      exact ⟨h2, h3⟩
  have hanc : Upw U m (G.p0 b) := (hev m).1 .refl _ hp0m hpp
  have hone : ∀ c, G.R c → G.pl c = k → c = b := fun c hc e => G.inj c b hc hb (by omega)
  have hprs : ∀ c, Pr U c → Pr (setU U b m) c := fun c hc => by
    rcases hc with e | e
    · exact .inl e
    · by_cases e2 : c = b
      · subst e2; exact .inr (by rw [setU_same]; omega)
      · exact .inr (by rw [setU_other e2]; exact e)
  have hprb : Pr (setU U b m) b := .inr (by rw [setU_same]; omega)
  have hprx : ∀ c, c ≠ b → Pr (setU U b m) c → Pr U c := fun c hne hc => by
    rcases hc with e | e
    · exact .inl e
    · rw [setU_other hne] at e; exact .inr e
  have htr : Tr G (setU U b m) := by
    refine ⟨by rw [setU_other (fun e => hb0 e.symm)]; exact h.tr.z, fun c hc => ?_⟩
    by_cases e : c = b
    · subst e
      rw [setU_same, Int.toNat_natCast]
      exact ⟨hb, hpm.reached h.tr, T.lt, hprs m hpm⟩
    · rw [setU_other e] at hc ⊢
      have h1 := h.tr.up c hc
      exact ⟨h1.1, h1.2.1, h1.2.2.1, hprs _ h1.2.2.2⟩
  -- a block whose way up does not come by b keeps it
  have hfree : ∀ x z, ¬ Upw U b x → (Upw (setU U b m) z x ↔ Upw U z x) := fun x z hn => ⟨anc_of_set hn, anc_set_of hn⟩
  have hlow : ∀ x, G.pl x < k → ¬ Upw U b x := fun x hl e => by have := e.ple h.tr; omega
  refine ⟨htr, ?_, ?_, ?_, ?_, ?_, ?_, ?_, ?_⟩
  · -- j0
    intro c hc z hz
    by_cases e : c = b
    · subst e
      rw [setU_same, Int.toNat_natCast]
      have : Upw U z m := (hev z).2 fun a ha hpa => by
        by_cases e2 : a = c
        · subst e2
          -- c itself is ahead of it
          rcases h.j7 a with hU | hU
          · rcases hpa with e3 | e3
            · exact absurd e3 hb0
            · omega
          · rcases (T.bel z).1 (hz a ha hprb) with e3 | e3
            · subst e3; exact .refl
            · exact .up hU ((h.shrinks hb hb0 hk hp0m hU hm).trans e3)
        · exact T.fwd z a e2 hpa (hz a ha (hprs a hpa))
      exact this.ple h.tr
    · rw [setU_other e] at hc ⊢
      refine h.j0 c hc z fun a ha hpa => ?_
      by_cases e2 : a = b
      · subst e2
        rcases h.j7 a with hU | hU
        · rcases hpa with e3 | e3
          · exact absurd e3 hb0
          · omega
        · rcases (T.bel z).1 (hz a ha hprb) with e3 | e3
          · subst e3; exact .refl
          · exact .up hU ((h.shrinks hb hb0 hk hp0m hU hm).trans e3)
      · exact T.fwd z a e2 hpa (hz a ha (hprs a hpa))
  · -- j1
    intro c hc hl
    have e : c ≠ b := fun e => by subst e; omega
    rw [setU_other e] at hc ⊢
    have hR := (h.tr.up c hc)
    have hpc := h.j6 c hc
    by_cases hbp : Upw U b (G.p0 c)
    · rcases h.j1 c hc (by omega) with h1 | ⟨h1, h2⟩
      · by_cases hw : G.pl b ≤ G.pl (U c).toNat
        · exact .inl (T.upper _ _ h1 hbp hw)
        · right
          refine ⟨by omega, fun y hy hyl => ?_⟩
          have hyU : Upw U y (G.p0 c) := by
            by_cases e2 : G.p0 c = b
            · rw [e2] at hy ⊢
              have hU : 0 ≤ U b := by
                rw [e2] at hpc
                exact hpc.resolve_left hb0
              rcases (T.bel y).1 hy with e3 | e3
              · subst e3; exact .refl
              · exact .up hU ((h.shrinks hb hb0 hk hp0m hU hm).trans e3)
            · exact T.fwd y _ e2 hpc hy
          have := hyU.total h.tr h1 hyl
          exact (hfree _ _ (hlow _ (by omega))).2 this
      · right
        refine ⟨by omega, fun y hy hyl => ?_⟩
        have hyU : Upw U y (G.p0 c) := by
          by_cases e2 : G.p0 c = b
          · rw [e2] at hy ⊢
            have hU : 0 ≤ U b := by
              rw [e2] at hpc
              exact hpc.resolve_left hb0
            rcases (T.bel y).1 hy with e3 | e3
            · subst e3; exact .refl
            · exact .up hU ((h.shrinks hb hb0 hk hp0m hU hm).trans e3)
          · exact T.fwd y _ e2 hpc hy
        exact (hfree _ _ (hlow _ (by omega))).2 (h2 y hyU hyl)
    · rcases h.j1 c hc (by omega) with h1 | ⟨h1, h2⟩
      · exact .inl ((hfree _ _ hbp).2 h1)
      · right
        refine ⟨by omega, fun y hy hyl => ?_⟩
        exact (hfree _ _ (hlow _ (by omega))).2 (h2 y ((hfree _ _ hbp).1 hy) hyl)
  · -- j2
    intro c hc hl
    by_cases e : c = b
    · subst e
      rw [setU_same, Int.toNat_natCast]
      exact (hfree _ _ (hlow _ (by omega))).2 hanc
    · rw [setU_other e] at hc ⊢
      have h1 := h.tr.up c hc
      have hlt : G.pl c < k := by
        rcases Nat.lt_or_ge (G.pl c) k with h2 | h2
        · exact h2
        · exact absurd (hone c h1.1 (by omega)) e
      have hc0 : c ≠ 0 := fun e => by subst e; have := h.tr.z; omega
      have h3 := G.par c h1.1 hc0
      exact (hfree _ _ (hlow _ (by omega))).2 (h.j2 c hc hlt)
  · -- j3
    have hbd : ∀ d, Dom G d b → d = b ∨ Upw U d m := fun d hd => by
      by_cases e : d = b
      · exact .inl e
      · exact .inr ((hev d).2 fun a ha hpa => h.j3 a d hpa (hd.pred e (hpa.reached h.tr) ((hpre a).1 ha)))
    intro x d hpx hd
    by_cases e : x = b
    · subst e
      exact (T.bel d).2 (hbd d hd)
    · have hpx' := hprx x e hpx
      have hdx := h.j3 x d hpx' hd
      by_cases hbx : Upw U b x
      · rcases Nat.lt_or_ge (G.pl d) (G.pl b) with hl | hl
        · have hdb : Dom G d b := ⟨hb, fun hv => hd.2 (TP.av (TP.of_anc h.tr h.j4 hbx) hl hv)⟩
          rcases hbd d hdb with e2 | e2
          · subst e2; omega
          · exact T.lower d x hbx e2
        · exact T.upper d x hdx hbx hl
      · exact (hfree _ _ hbx).2 hdx
  · -- j4
    intro c hc
    by_cases e : c = b
    · subst e
      rw [setU_same, Int.toNat_natCast]
      exact .step hb hb0 (TP.of_anc h.tr h.j4 hanc)
    · rw [setU_other e] at hc ⊢
      exact h.j4 c hc
  · -- j5
    intro c hr hl
    by_cases e : c = b
    · subst e; exact hprb
    · have hlt : G.pl c < k := by
        rcases Nat.lt_or_ge (G.pl c) k with h2 | h2
        · exact h2
        · exact absurd (hone c hr (by omega)) e
      exact hprs c (h.j5 c hr hlt)
  · -- j6
    intro c hc
    by_cases e : c = b
    · subst e; exact hprs _ hpp
    · rw [setU_other e] at hc
      exact hprs _ (h.j6 c hc)
  · -- j7
    intro c
    by_cases e : c = b
    · subst e; right; rw [setU_same]; omega
    · rw [setU_other e]; exact h.j7 c
end
/-- What is told at last. -/
structure Fin_ (G : Gra) (U : Nat → Int) : Prop where
  tr : Tr G U
  all : ∀ c, G.R c → Pr U c
  dom : ∀ d x, G.R x → (Upw U d x ↔ Dom G d x)
  non : ∀ c, ¬ G.R c → U c = -1
theorem Ps.fin {n : Nat} (h : Ps G pre U n) (hall : ∀ c, G.R c → G.pl c < n) (hpre : ∀ a b, a ∈ pre b ↔ G.E a b) (hfix : ∀ b, G.R b → b ≠ 0 → Eva U (pre b) (U b)) : Fin_ G U := by
  have hpr : ∀ c, G.R c → Pr U c := fun c hc => h.j5 c hc (hall c hc)
  refine ⟨h.tr, hpr, fun d x hx => ⟨fun ha => ⟨hx, fun hv => ?_⟩, fun hd => h.j3 x d (hpr x hx) hd⟩, fun c hc => ?_⟩
  · have key : ∀ x, Av G d x → ¬ Upw U d x := by
      intro x hv
      induction hv with
      | zero h0 =>
        intro ha
        rcases ha.inv with e | ⟨e, _⟩
        · exact h0 e
        · have := h.tr.z; omega
      | @step a x hv he hne ih =>
        intro ha
        have hra := hv.reached
        have hrx := G.fwd _ _ hra he
        rcases ha.inv with e | ⟨e, hd⟩
        · exact hne e.symm
        · have hx0 : x ≠ 0 := fun e2 => by subst e2; have := h.tr.z; omega
          rcases hfix x hrx hx0 with ⟨_, h2⟩ | ⟨m, h1, _, _, h3⟩
          · exact h2 a ((hpre a x).2 he) (hpr a hra)
          · rw [h1, Int.toNat_natCast] at hd
            exact ih ((h3 d).1 hd a ((hpre a x).2 he) (hpr a hra))
    exact key x hv ha
  · rcases h.j7 c with e | e
    · exact e
    · exact absurd (h.tr.up c e).1 hc
theorem Fin_.eq {U' : Nat → Int} (h : Fin_ G U) (h' : Fin_ G U') : ∀ c, U c = U' c := by
  intro c
  by_cases hc : G.R c
  · by_cases h0 : c = 0
    · subst h0; rw [h.tr.z, h'.tr.z]
    · have e1 := (h.all c hc).resolve_left h0
      have e2 := (h'.all c hc).resolve_left h0
      have hx : ∀ z, Upw U z c ↔ Upw U' z c := fun z => by rw [h.dom z c hc, h'.dom z c hc]
      have l1 := (h.tr.up c e1).2.2.1
      have l2 := (h'.tr.up c e2).2.2.1
      have a1 : Upw U' (U c).toNat (U' c).toNat := by
        have : Upw U' (U c).toNat c := (hx _).1 (.up e1 .refl)
        rcases this.inv with e | ⟨_, e⟩
        · rw [e] at l1; omega
        · exact e
      have a2 : Upw U (U' c).toNat (U c).toNat := by
        have : Upw U (U' c).toNat c := (hx _).2 (.up e2 .refl)
        rcases this.inv with e | ⟨_, e⟩
        · rw [e] at l2; omega
        · exact e
      rcases a1.le h'.tr with e | e
      · omega
      · have := a2.ple h.tr; omega
  · rw [h.non c hc, h'.non c hc]
end
theorem TP.rch {G : Gra} {b x : Nat} (h : TP G b x) (hx : G.R x) : G.R b := by
  induction h with
  | refl => exact hx
  | step h1 h2 _ ih => exact ih (G.par _ h1 h2).1
theorem tp_or_av {G : Gra} {d : Nat} : ∀ (n x : Nat), G.pl x < n → G.R x → TP G d x ∨ Av G d x
  | 0, x, h, _ => by omega
  | n + 1, x, h, hx => by
    by_cases h0 : x = 0
    · subst h0
      by_cases e : d = 0
      · subst e; exact .inl .refl
      · exact .inr (.zero e)
    · have hp := G.par x hx h0
      rcases tp_or_av (d := d) n (G.p0 x) (by omega) hp.1 with h1 | h1
      · exact .inl (.step hx h0 h1)
      · by_cases e : x = d
        · subst e; exact .inl .refl
        · exact .inr (.step h1 hp.2.1 e)
theorem Dom.tp {G : Gra} {d x : Nat} (h : Dom G d x) : TP G d x := (tp_or_av _ x (Nat.lt_succ_self _) h.1).resolve_right h.2
theorem Dom.self {G : Gra} {x : Nat} (h : G.R x) : Dom G x x := ⟨h, fun hv => hv.ne rfl⟩
theorem Dom.zero {G : Gra} {x : Nat} (h : G.R x) : Dom G 0 x := ⟨h, fun hv => by
  have : ∀ y, ¬ Av G 0 y := fun y hy => by
    induction hy with
    | zero h => exact h rfl
    | step _ _ _ ih => exact ih
  exact this x hv⟩
theorem Dom.lt {G : Gra} {d x : Nat} (h : Dom G d x) (hne : d ≠ x) : G.pl d < G.pl x := by
  rcases Nat.lt_or_ge (G.pl d) (G.pl x) with h1 | h1
  · exact h1
  · exact absurd (G.inj d x (h.tp.rch h.1) h.1 (by have := h.tp.ple; omega)) hne
theorem Av.via {G : Gra} {a d x : Nat} (h : Av G d x) : Av G a x ∨ Av G d a := by
  induction h with
  | zero h0 =>
    by_cases e : a = 0
    · subst e; exact .inr (.zero h0)
    · exact .inl (.zero e)
  | @step b x hv he hne ih =>
    rcases ih with h1 | h1
    · by_cases e : x = a
      · subst e; exact .inr (.step hv he hne)
      · exact .inl (.step h1 he e)
    · exact .inr h1
theorem Dom.trans {G : Gra} {a d x : Nat} (h : Dom G d a) (k : Dom G a x) : Dom G d x := ⟨k.1, fun hv => hv.via.elim k.2 h.2⟩
def Idm (G : Gra) (x d : Nat) : Prop := Dom G d x ∧ d ≠ x ∧ ∀ c, Dom G c x → c ≠ x → G.pl c ≤ G.pl d
theorem idm_ex {G : Gra} {x : Nat} (hx : G.R x) (h0 : x ≠ 0) : ∃ d, Idm G x d := by
  have : ∀ (n : Nat) (d : Nat), Dom G d x → d ≠ x → G.pl x - G.pl d < n → ∃ d, Idm G x d := by
    intro n
    induction n with
    | zero => intro d _ _ h; omega
    | succ n ih =>
      intro d hd hne hn
      by_cases e : ∃ c, Dom G c x ∧ c ≠ x ∧ G.pl d < G.pl c
      · obtain ⟨c, h1, h2, h3⟩ := e
        have := h1.lt h2
        exact ih c h1 h2 (by omega)
      · refine ⟨d, hd, hne, fun c h1 h2 => ?_⟩
        rcases Nat.lt_or_ge (G.pl d) (G.pl c) with h3 | h3
        · exact absurd ⟨c, h1, h2, h3⟩ e
        · exact h3
  exact this _ 0 (Dom.zero hx) (fun e => h0 e.symm) (Nat.lt_succ_self _)
open Classical in
noncomputable def idU (G : Gra) (x : Nat) : Int := if G.R x ∧ x ≠ 0 then ((Classical.epsilon (Idm G x) : Nat) : Int) else -1
theorem idU_spec {G : Gra} {x : Nat} (h : 0 ≤ idU G x) : G.R x ∧ x ≠ 0 ∧ Idm G x (idU G x).toNat := by
  unfold idU at h ⊢
  by_cases e : G.R x ∧ x ≠ 0
  · rw [if_pos e, Int.toNat_natCast]
    exact ⟨e.1, e.2, Classical.epsilon_spec (idm_ex e.1 e.2)⟩
  · rw [if_neg e] at h; omega
theorem idU_pos {G : Gra} {x : Nat} (h : G.R x) (h0 : x ≠ 0) : 0 ≤ idU G x := by
  unfold idU
  rw [if_pos ⟨h, h0⟩]
  omega
theorem idU_fin (G : Gra) : Fin_ G (idU G) := by
  have hpr : ∀ c, G.R c → Pr (idU G) c := fun c hc => by
    by_cases h0 : c = 0
    · exact .inl h0
    · exact .inr (idU_pos hc h0)
  have htr : Tr G (idU G) := by
    refine ⟨by unfold idU; rw [if_neg (fun h => h.2 rfl)], fun b hb => ?_⟩
    obtain ⟨h1, h2, h3⟩ := idU_spec hb
    have h4 := h3.1.tp.rch h1
    exact ⟨h1, h4, h3.1.lt h3.2.1, hpr _ h4⟩
  refine ⟨htr, hpr, fun d x hx => ⟨fun h => ?_, ?_⟩, fun c hc => by unfold idU; rw [if_neg (fun h => hc h.1)]⟩
  · induction h with
    | refl => exact .self hx
    | up h1 _ ih => exact (ih (htr.up _ h1).2.1).trans (idU_spec h1).2.2.1
  · have : ∀ (n x : Nat), G.pl x < n → G.R x → Dom G d x → Upw (idU G) d x := by
      intro n
      induction n with
      | zero => intro x h; omega
      | succ n ih =>
        intro x hn hx hd
        by_cases e : d = x
        · subst e; exact .refl
        · have h0 : x ≠ 0 := fun e0 => by subst e0; exact hd.2 (.zero e)
          have hu := idU_pos hx h0
          obtain ⟨_, _, h3⟩ := idU_spec hu
          have hr := h3.1.tp.rch hx
          have hlt := h3.1.lt h3.2.1
          refine .up hu (ih _ (by omega) hr ⟨hr, fun hv => ?_⟩)
          have hle := h3.2.2 d hd e
          by_cases e2 : d = (idU G x).toNat
          · exact hv.ne e2.symm
          · refine hd.2 (h3.1.tp.av ?_ hv)
            rcases Nat.lt_or_ge (G.pl d) (G.pl (idU G x).toNat) with h5 | h5
            · exact h5
            · exact absurd (G.inj _ _ (hd.tp.rch hx) hr (by omega)) e2
    exact this _ x (Nat.lt_succ_self _) hx
end Go.Proofs.YtkefmjhagmacfaaGreatDoor

/- Dominators of a function's blocks: the plain law at the order of blocks. -/
namespace Go.Proofs.YtkefmjhagmacfaaGreatDoor
set_option linter.unusedVariables false
set_option maxRecDepth 10000
open Go Go.RowKit

theorem fold_par {ts : List Tm} {fuel : Nat} (ih : ∀ (b : Nat) (st : Dst), ∃ nl, (dfs ts fuel b st).2 = nl ++ st.2 ∧ ∀ x ∈ nl, x = b ∨ ∃ p, (x : Int) ∈ toAt ts p ∧ After (dfs ts fuel b st).2 p x) :
    ∀ (l : List Int) (st : Dst), (∀ t ∈ l, 0 ≤ t) → ∃ nl, (l.foldl (fun st t => dfs ts fuel t.toNat st) st).2 = nl ++ st.2 ∧ ∀ x ∈ nl, (x : Int) ∈ l ∨ ∃ p, (x : Int) ∈ toAt ts p ∧ After (l.foldl (fun st t => dfs ts fuel t.toNat st) st).2 p x
  | [], st, _ => ⟨[], rfl, fun x h => (by cases h)⟩
  | t :: l, st, h0 => by
    obtain ⟨n1, e1, h1⟩ := ih t.toNat st
    obtain ⟨n2, e2, h2⟩ := fold_par ih l (dfs ts fuel t.toNat st) (fun t ht => h0 t (by simp [ht]))
    have ht := h0 t (by simp)
    refine ⟨n2 ++ n1, by rw [List.foldl_cons, e2, e1]; simp, fun x hx => ?_⟩
    rw [List.foldl_cons]
    rcases List.mem_append.1 hx with hx | hx
    · rcases h2 x hx with h3 | h3
      · exact .inl (by simp [h3])
      · exact .inr h3
    · rcases h1 x hx with rfl | ⟨p, h3, h4⟩
      · exact .inl (by simp; omega)
      · exact .inr ⟨p, h3, by rw [e2]; exact h4.more n2⟩
theorem dfs_par {ts : List Tm} (hc : closed ts = true) : ∀ (fuel b : Nat) (st : Dst), ∃ nl, (dfs ts fuel b st).2 = nl ++ st.2 ∧ ∀ x ∈ nl, x = b ∨ ∃ p, (x : Int) ∈ toAt ts p ∧ After (dfs ts fuel b st).2 p x := by
  intro fuel
  induction fuel with
  | zero => exact fun b st => ⟨[], rfl, fun x h => (by cases h)⟩
  | succ fuel ih =>
    intro b st
    cases hs : st.1.testBit b with
    | true =>
      have e : dfs ts (fuel + 1) b st = st := by simp only [dfs, hs, cond_true]
      rw [e]
      exact ⟨[], rfl, fun x h => (by cases h)⟩
    | false =>
      obtain ⟨nl, e, h⟩ := fold_par ih (toAt ts b) (withL st.1 [(b : Int)], st.2) (fun t ht => (toAt_lt hc ht).1)
      have e2 : (dfs ts (fuel + 1) b st).2 = b :: ((toAt ts b).foldl (fun st t => dfs ts fuel t.toNat st) (withL st.1 [(b : Int)], st.2)).2 := by simp only [dfs, hs, cond_false]
      rw [e2]
      refine ⟨b :: nl, by rw [e]; rfl, fun x hx => ?_⟩
      rcases List.mem_cons.1 hx with rfl | hx
      · exact .inl rfl
      · right
        rcases h x hx with h1 | ⟨p, h1, h2⟩
        · exact ⟨b, h1, [], _, rfl, by rw [e]; exact List.mem_append_left _ hx⟩
        · exact ⟨p, h1, h2.more [b]⟩
theorem After.mem {l : List Nat} {x y : Nat} (h : After l x y) : x ∈ l ∧ y ∈ l := by
  obtain ⟨p, q, rfl, hy⟩ := h
  exact ⟨by simp, by simp [hy]⟩
theorem order_par {ts : List Tm} (hc : closed ts = true) {c : Nat} (h : c ∈ orderF ts) (h0 : c ≠ 0) : ∃ p, (c : Int) ∈ toAt ts p ∧ After (orderF ts) p c := by
  obtain ⟨nl, e, hp⟩ := dfs_par hc (ts.length + 1) 0 (0, [])
  have e2 : orderF ts = (dfs ts (ts.length + 1) 0 (0, [])).2 := by unfold orderF; rw [hc, cond_true]
  rw [e2, e] at h
  rcases hp c (by simpa using h) with h1 | h1
  · exact absurd h1 h0
  · rw [e2]; exact h1
theorem order_edge' {ts : List Tm} (hc : closed ts = true) {a y : Nat} (ha : a ∈ orderF ts) (hy : (y : Int) ∈ toAt ts a) : y ∈ orderF ts := (order_edge hc ha hy).1
theorem After.idx {l : List Nat} (hn : l.Nodup) {x y : Nat} (h : After l x y) : l.idxOf x < l.idxOf y := by
  obtain ⟨p, q, rfl, hy⟩ := h
  rw [List.nodup_append] at hn
  obtain ⟨_, h2, h3⟩ := hn
  rw [List.nodup_cons] at h2
  have hx : x ∉ p := fun hx => h3 x hx x (by simp) rfl
  have hyp : y ∉ p := fun hx => h3 y hx y (by simp [hy]) rfl
  have hne : y ≠ x := fun e => h2.1 (by subst e; exact hy)
  rw [List.idxOf_append, List.idxOf_append, if_neg hx, if_neg hyp, List.idxOf_cons, List.idxOf_cons]
  have e : (x == y) = false := by simpa using fun e : x = y => hne e.symm
  rw [e]
  simp
noncomputable def parF (ts : List Tm) (c : Nat) : Nat := Classical.epsilon fun p => (c : Int) ∈ toAt ts p ∧ After (orderF ts) p c
theorem parF_spec {ts : List Tm} (hc : closed ts = true) {c : Nat} (h : c ∈ orderF ts) (h0 : c ≠ 0) : (c : Int) ∈ toAt ts (parF ts c) ∧ After (orderF ts) (parF ts c) c := Classical.epsilon_spec (order_par hc h h0)
theorem order_zero {ts : List Tm} (hc : closed ts = true) : 0 ∈ orderF ts := by
  obtain ⟨t, h⟩ := order_head hc
  rw [h]; simp
noncomputable def gra (ts : List Tm) (hc : closed ts = true) : Gra where
  R x := x ∈ orderF ts
  E a b := (b : Int) ∈ toAt ts a
  pl x := (orderF ts).idxOf x
  p0 := parF ts
  r0 := order_zero hc
  pl0 := by
    obtain ⟨t, h⟩ := order_head hc
    rw [h]; simp
  inj a b ha hb h := by
    have h1 := List.getElem_idxOf (List.idxOf_lt_length_of_mem ha)
    have h2 := List.getElem_idxOf (List.idxOf_lt_length_of_mem hb)
    rw [← h1, ← h2]
    simp only [h]
  par c h h0 := by
    obtain ⟨h1, h2⟩ := parF_spec hc h h0
    exact ⟨h2.mem.1, h1, h2.idx (order_nodup hc)⟩
  fwd a b ha he := order_edge' hc ha he
theorem gra_pos {ts : List Tm} (hc : closed ts = true) (c : Nat) : c = 0 ∨ (gra ts hc).pl c ≠ 0 ∨ ¬ (gra ts hc).R c := by
  by_cases h : c ∈ orderF ts
  · by_cases h0 : c = 0
    · exact .inl h0
    · right; left
      intro e
      exact h0 ((gra ts hc).inj c 0 h (order_zero hc) (by rw [e, (gra ts hc).pl0]))
  · exact .inr (.inr h)
/-- The blocks ahead of one, one by one edge. -/
def preF (ts : List Tm) (b : Nat) : List Nat := ((edges ts).filter fun e => decide (e.to = (b : Int))).map fun e => e.src.toNat
theorem mem_preF {ts : List Tm} {a b : Nat} : a ∈ preF ts b ↔ (b : Int) ∈ toAt ts a := by
  unfold preF
  simp only [List.mem_map, List.mem_filter, decide_eq_true_eq]
  constructor
  · rintro ⟨e, ⟨he, h1⟩, rfl⟩
    obtain ⟨k, j, t, hk, hj, h2, h3⟩ := mem_edges.1 he
    rw [h2, Int.toNat_natCast, toAt_some hk, ← h1]
    exact List.mem_of_getElem? hj
  · intro h
    unfold toAt at h
    cases ht : ts[a]? with
    | none => rw [ht] at h; cases h
    | some t =>
      rw [ht] at h
      obtain ⟨j, hj⟩ := List.mem_iff_getElem?.1 h
      exact ⟨⟨(a : Int), (j : Int), (b : Int)⟩, ⟨mem_edges.2 ⟨a, j, t, ht, hj, rfl, rfl⟩, rfl⟩, by simp⟩
/-- What each block is told to be below, as a list. -/
def asU (ul : List Int) : Nat → Int := fun x => ul.getD x (-1)
theorem asU_set {ul : List Int} {b : Nat} {r : Int} (h : b < ul.length) : asU (ul.set b r) = setU (asU ul) b r := by
  funext x
  unfold asU setU
  rw [List.getD_eq_getElem?_getD, List.getElem?_set]
  by_cases e : b = x
  · subst e; simp [h]
  · rw [if_neg e, if_neg (fun e2 => e e2.symm), ← List.getD_eq_getElem?_getD]
theorem asU_get {ul : List Int} {b : Nat} (h : b < ul.length) : ul[b]? = some (asU ul b) := by
  unfold asU
  rw [List.getD_eq_getElem?_getD, List.getElem?_eq_getElem h]; rfl
theorem asU_rep (n : Nat) : asU (List.replicate n (-1)) = fun _ => -1 := by
  funext x
  unfold asU
  rw [List.getD_eq_getElem?_getD, List.getElem?_replicate]
  split <;> rfl
/-- What is left to be lowered. -/
def costU (pl : Nat → Nat) (n : Nat) (v : Int) : Nat := if v < 0 then n else pl v.toNat
def muU (pl : Nat → Nat) (n : Nat) (ul : List Int) : Nat := (ul.map (costU pl n)).sum
theorem sum_set : ∀ (l : List Nat) (i x : Nat) (h : i < l.length), (l.set i x).sum + l[i] = l.sum + x
  | [], i, x, h => by simp at h
  | a :: l, 0, x, h => by simp; omega
  | a :: l, i + 1, x, h => by
    have := sum_set l i x (by simpa using h)
    simp at this ⊢; omega
theorem muU_set {pl : Nat → Nat} {n b m : Nat} {ul : List Int} (h : b < ul.length) (hlt : pl m < costU pl n (asU ul b)) : muU pl n (ul.set b (m : Int)) < muU pl n ul := by
  unfold muU
  rw [List.map_set]
  have h1 := sum_set (ul.map (costU pl n)) b (costU pl n (m : Int)) (by simpa using h)
  have h2 : costU pl n (m : Int) = pl m := by unfold costU; rw [if_neg (by omega)]; simp
  have h3 : (ul.map (costU pl n))[b]'(by simpa using h) = costU pl n (asU ul b) := by
    rw [List.getElem_map]
    congr 1
    have := asU_get h
    rw [List.getElem?_eq_getElem h] at this
    exact Option.some.inj this
  omega
theorem order_lt {ts : List Tm} (hc : closed ts = true) {x : Nat} (h : x ∈ orderF ts) : x < ts.length := by
  obtain ⟨r, nw, _, e, p, _⟩ := order_spec hc
  rw [e] at h
  exact (p.new x h).2.2
theorem Ps.lower {ts : List Tm} {hc : closed ts = true} {ul : List Int} {k b m : Nat} (h : Ps (gra ts hc) (preF ts) (asU ul) k) (hb : b ∈ orderF ts) (hb0 : b ≠ 0) (hk : (orderF ts).idxOf b = k) (hm : Eva (asU ul) (preF ts b) (m : Int)) (hne : (m : Int) ≠ asU ul b) (hl : b < ul.length) :
    muU ((orderF ts).idxOf ·) (orderF ts).length (ul.set b (m : Int)) < muU ((orderF ts).idxOf ·) (orderF ts).length ul := by
  have hpar := (gra ts hc).par b hb hb0
  refine muU_set hl ?_
  have hmR : m ∈ orderF ts := by
    rcases hm with ⟨h1, _⟩ | ⟨m', h1, h2, _⟩
    · omega
    · have : m' = m := by omega
      subst this
      exact h2.reached h.tr
  unfold costU
  rcases h.j7 b with e | e
  · rw [if_pos (by omega)]
    exact List.idxOf_lt_length_of_mem hmR
  · rw [if_neg (by omega)]
    have h1 := h.shrinks hb hb0 hk (mem_preF.2 hpar.2.1) e hm
    rcases h1.le h.tr with h2 | h2
    · omega
    · exact h2
/-- The immediate dominators. -/
def DomU (ts : List Tm) (ul : List Int) : Prop := ul.length = ts.length ∧ ∀ hc : closed ts = true, Fin_ (gra ts hc) (asU ul)
theorem DomU.eq {ts : List Tm} (hc : closed ts = true) {a b : List Int} (ha : DomU ts a) (hb : DomU ts b) : a = b := by
  have h := (ha.2 hc).eq (hb.2 hc)
  apply List.ext_getElem (by rw [ha.1, hb.1])
  intro i h1 h2
  have e1 := asU_get h1
  have e2 := asU_get h2
  rw [List.getElem?_eq_getElem h1] at e1
  rw [List.getElem?_eq_getElem h2] at e2
  have e1 := Option.some.inj e1
  have e2 := Option.some.inj e2
  rw [e1, e2, h i]
/-- The immediate dominators, told. -/
noncomputable def domL (ts : List Tm) : List Int := Classical.epsilon (DomU ts)
theorem DomU.eqL {ts : List Tm} (hc : closed ts = true) {a : List Int} (ha : DomU ts a) : a = domL ts := ha.eq hc (Classical.epsilon_spec ⟨a, ha⟩)
theorem domL_spec {ts : List Tm} {a : List Int} (ha : DomU ts a) : DomU ts (domL ts) := Classical.epsilon_spec ⟨a, ha⟩
/-- Where each block stands among the first k of the order; -1: nowhere. -/
def plTo (ts : List Tm) (k x : Nat) : Int := if x ∈ (orderF ts).take k then ((orderF ts).idxOf x : Int) else -1
def plL (ts : List Tm) : List Int := (List.range ts.length).map (plTo ts (orderF ts).length)
theorem plL_len (ts : List Tm) : (plL ts).length = ts.length := by simp [plL]
theorem plL_get {ts : List Tm} {x : Nat} (h : x < ts.length) : (plL ts)[x]? = some (if x ∈ orderF ts then ((orderF ts).idxOf x : Int) else -1) := by
  unfold plL plTo
  rw [List.getElem?_map, List.getElem?_range h, List.take_length]
  rfl
theorem plTo_zero (ts : List Tm) (x : Nat) : plTo ts 0 x = -1 := by simp [plTo]
theorem plTo_succ {ts : List Tm} (hc : closed ts = true) {k b : Nat} (h : (orderF ts)[k]? = some b) (x : Nat) : plTo ts (k + 1) x = if x = b then (k : Int) else plTo ts k x := by
  unfold plTo
  have hk := (List.getElem?_eq_some_iff.1 h).1
  rw [take_snoc_ h]
  by_cases e : x = b
  · subst e
    have : (orderF ts).idxOf x = k := by
      have h2 := (List.getElem?_eq_some_iff.1 h).2
      have hm : x ∈ orderF ts := List.mem_of_getElem? h
      have h1 := List.getElem_idxOf (List.idxOf_lt_length_of_mem hm)
      have h3 : (orderF ts)[(orderF ts).idxOf x]? = (orderF ts)[k]? := by
        rw [h, List.getElem?_eq_getElem (List.idxOf_lt_length_of_mem hm), h1]
      exact (List.getElem?_inj (List.idxOf_lt_length_of_mem hm) (order_nodup hc)).1 h3
    simp [this]
  · simp [e]
/-- Up from a block. -/
def chF (U : Nat → Int) : Nat → Nat → List Nat
  | 0, _ => []
  | n + 1, b => b :: (if U b < 0 then [] else chF U n (U b).toNat)
theorem mem_chF {G : Gra} {U : Nat → Int} (ht : Tr G U) : ∀ (n b z : Nat), G.pl b < n → (z ∈ chF U n b ↔ Upw U z b)
  | 0, b, z, h => by omega
  | n + 1, b, z, h => by
    unfold chF
    by_cases hu : U b < 0
    · rw [if_pos hu]
      constructor
      · intro h1
        have : z = b := by simpa using h1
        subst this; exact .refl
      · intro h1
        rcases h1.inv with e | ⟨e, _⟩
        · simp [e]
        · omega
    · rw [if_neg hu]
      have h1 := (ht.up b (by omega)).2.2.1
      rw [List.mem_cons, mem_chF ht n (U b).toNat z (by omega)]
      constructor
      · rintro (e | e)
        · subst e; exact .refl
        · exact .up (by omega) e
      · intro h2
        rcases h2.inv with e | ⟨_, e⟩
        · exact .inl e
        · exact .inr e
/-- Is it a block that is reached? -/
def inP (P : List Int) (b : Int) : Bool := decide (0 ≤ b) && decide (b < (P.length : Int)) && decide (0 ≤ P.getD b.toNat (-1))
theorem inP_iff {ts : List Tm} (hc : closed ts = true) {b : Int} : inP (plL ts) b = true ↔ ∃ x : Nat, b = (x : Int) ∧ x ∈ orderF ts := by
  unfold inP
  rw [plL_len]
  constructor
  · intro h
    simp only [Bool.and_eq_true, decide_eq_true_eq] at h
    obtain ⟨⟨h1, h2⟩, h3⟩ := h
    refine ⟨b.toNat, by omega, ?_⟩
    rw [List.getD_eq_getElem?_getD, plL_get (by omega)] at h3
    by_cases hm : b.toNat ∈ orderF ts
    · exact hm
    · simp [hm] at h3
  · rintro ⟨x, rfl, hx⟩
    have hl := order_lt hc hx
    simp only [Bool.and_eq_true, decide_eq_true_eq, Int.toNat_natCast]
    refine ⟨⟨by omega, by omega⟩, ?_⟩
    rw [List.getD_eq_getElem?_getD, plL_get hl, if_pos hx]
    simp
/-- The blocks that dominate one, itself first; none of one that is not reached. -/
noncomputable def chainL (ts : List Tm) (b : Int) : List Nat := bif closed ts && inP (plL ts) b then chF (asU (domL ts)) (ts.length + 1) b.toNat else []
noncomputable def overF (ts : List Tm) (a b : Int) : Bool := (chainL ts b).any fun d => decide ((d : Int) = a)
theorem order_len_le {ts : List Tm} (hc : closed ts = true) : (orderF ts).length ≤ ts.length := by
  have := nodup_le (orderF ts) (List.range ts.length) (order_nodup hc) fun x hx => by simpa using order_lt hc hx
  simpa using this
theorem overF_iff {ts : List Tm} (hc : closed ts = true) (hd : DomU ts (domL ts)) {a b : Int} : overF ts a b = true ↔ ∃ x y : Nat, a = (x : Int) ∧ b = (y : Int) ∧ y ∈ orderF ts ∧ Dom (gra ts hc) x y := by
  have F := hd.2 hc
  unfold overF chainL
  rw [hc, Bool.true_and, List.any_eq_true]
  constructor
  · rintro ⟨d, hd1, hd2⟩
    have e : (d : Int) = a := by simpa using hd2
    cases hp : inP (plL ts) b with
    | false => rw [hp] at hd1; cases hd1
    | true =>
      rw [hp, cond_true] at hd1
      obtain ⟨y, rfl, hy⟩ := (inP_iff hc).1 hp
      rw [Int.toNat_natCast] at hd1
      have hl : (gra ts hc).pl y < ts.length + 1 := by
        have h1 : (orderF ts).idxOf y < (orderF ts).length := List.idxOf_lt_length_of_mem hy
        have h2 := order_len_le hc
        show (orderF ts).idxOf y < _
        omega
      exact ⟨d, y, e.symm, rfl, hy, (F.dom d y hy).1 ((mem_chF F.tr _ _ _ hl).1 hd1)⟩
  · rintro ⟨x, y, rfl, rfl, hy, hxy⟩
    have hp : inP (plL ts) (y : Int) = true := (inP_iff hc).2 ⟨y, rfl, hy⟩
    refine ⟨x, ?_, by simp⟩
    rw [hp, cond_true, Int.toNat_natCast]
    have hl : (gra ts hc).pl y < ts.length + 1 := by
      have h1 : (orderF ts).idxOf y < (orderF ts).length := List.idxOf_lt_length_of_mem hy
      have h2 := order_len_le hc
      show (orderF ts).idxOf y < _
      omega
    exact (mem_chF F.tr _ _ _ hl).2 ((F.dom x y hy).2 hxy)
/-- The blocks ahead of one, by the first k edges. -/
def preTo (ts : List Tm) (k x : Nat) : List Int := ((((edges ts).take k).filter fun e => decide (e.to = (x : Int))).map Ed.src)
theorem preTo_zero (ts : List Tm) (x : Nat) : preTo ts 0 x = [] := by simp [preTo]
theorem preTo_succ {ts : List Tm} {k : Nat} {e : Ed} (h : (edges ts)[k]? = some e) (x : Nat) : preTo ts (k + 1) x = if e.to = (x : Int) then preTo ts k x ++ [e.src] else preTo ts k x := by
  unfold preTo
  rw [take_snoc_ h, List.filter_append, List.map_append]
  by_cases he : e.to = (x : Int) <;> simp [he]
theorem preTo_all (ts : List Tm) (x : Nat) : preTo ts (edges ts).length x = (preF ts x).map fun n : Nat => (n : Int) := by
  unfold preTo preF
  rw [List.take_length, List.map_map]
  apply List.map_congr_left
  intro e he
  have := (mem_edges.1 (List.mem_filter.1 he).1)
  obtain ⟨k, j, t, _, _, h2, _⟩ := this
  simp [h2]
theorem preTo_len (ts : List Tm) (k x : Nat) : (preTo ts k x).length ≤ k := by
  unfold preTo
  rw [List.length_map]
  exact Nat.le_trans (List.length_filter_le _ _) (by simp; omega)
theorem domL_ex {ts : List Tm} (hc : closed ts = true) : DomU ts (domL ts) := by
  refine domL_spec (a := (List.range ts.length).map (idU (gra ts hc))) ⟨by simp, fun hc' => ?_⟩
  have e : asU ((List.range ts.length).map (idU (gra ts hc))) = idU (gra ts hc) := by
    funext x
    unfold asU
    rw [List.getD_eq_getElem?_getD, List.getElem?_map]
    rcases Nat.lt_or_ge x ts.length with h | h
    · rw [List.getElem?_range h]; rfl
    · rw [List.getElem?_eq_none (by simpa using h)]
      show (-1 : Int) = _
      unfold idU
      rw [if_neg (fun h2 => by have := order_lt hc h2.1; omega)]
  rw [e]
  exact idU_fin _
end Go.Proofs.YtkefmjhagmacfaaGreatDoor

/- Dominators told by what is reached without a block; a test of them: plain laws. -/
namespace Go.Proofs.YtkefmjhagmacfaaGreatDoor
set_option linter.unusedVariables false
set_option maxRecDepth 10000
open Go Go.RowKit

/-- What is reached, by blocks that are open alone. -/
theorem mem_reach_op {ts : List Tm} {op s : Nat} (h : Sub s op) (hop : Sm op) (K : Nat → Prop) (h0 : ∀ a, s.testBit a = true → K a) (hs : ∀ b c : Nat, K b → (c : Int) ∈ toAt ts b → op.testBit c = true → K c)
    (hK : ∀ (Q : Nat → Prop), (∀ a, s.testBit a = true → Q a) → (∀ b c : Nat, Q b → (c : Int) ∈ toAt ts b → op.testBit c = true → Q c) → ∀ i, K i → Q i) (i : Nat) : (reachS ts op s).testBit i = true ↔ K i := by
  constructor
  · intro hi
    have : ∀ k i, (iterF (stepS ts op) k s).testBit i = true → K i := by
      intro k
      induction k with
      | zero => intro i hi; exact h0 i hi
      | succ k ih =>
        intro i hi
        have hi : (stepS ts op (iterF (stepS ts op) k s)).testBit i = true := hi
        rw [mem_step ((iterF_sub h k).sm hop)] at hi
        rcases hi.2 with h1 | ⟨_, b, hb, hc⟩
        · exact ih i h1
        · exact hs b i (ih b hb) hc hi.1
    exact this _ i hi
  · refine hK (fun i => (reachS ts op s).testBit i = true) (fun a ha => reach_sub_ h a ha) (fun b c hb hc hopc => ?_) i
    have hsm : Sm (reachS ts op s) := Sub.sm (iterF_sub (ts := ts) h 1025) hop
    show (reachS ts op s).testBit c = true
    rw [← reach_fix h hop, mem_step hsm]
    refine ⟨hopc, .inr ⟨?_, b, hb, hc⟩⟩
    rcases Nat.lt_or_ge c 1024 with hl | hl
    · exact hl
    · rw [hop c hl] at hopc; cases hopc
/-- What Reached tells of block 0, one block shut: where a way goes that avoids it. -/
theorem mem_left {ts : List Tm} (hc : closed ts = true) {a : Nat} (ha : a < ts.length) (i : Nat) : i ∈ reachedF ts [0] [(a : Int)] ↔ Av (gra ts hc) a i := by
  obtain ⟨hn0, hl⟩ := closed_le hc
  have hoka : okN (a : Int) = true := by rw [okN_iff]; omega
  have hbit : ∀ i : Nat, (lessL (allS ts.length) [(a : Int)]).testBit i = true ↔ i < ts.length ∧ i ≠ a := fun i => by
    rw [testBit_lessL, testBit_allS _ _ (by omega)]
    simp only [Bool.and_eq_true, decide_eq_true_eq, Bool.not_eq_true', Bool.and_eq_false_iff, List.contains_eq_mem, decide_eq_false_iff_not, List.mem_cons, List.not_mem_nil, or_false]
    constructor
    · rintro ⟨h1, h2⟩
      refine ⟨h1, ?_⟩
      rintro rfl
      rcases h2 with h2 | h2
      · rw [hoka] at h2; cases h2
      · exact h2 rfl
    · rintro ⟨h1, h2⟩
      exact ⟨h1, .inr (by omega)⟩
  have hs0 : ∀ i : Nat, (lessL (allS ts.length) [(a : Int)] &&& ofL [0]).testBit i = true ↔ i = 0 ∧ a ≠ 0 := fun i => by
    rw [Nat.testBit_and, Bool.and_eq_true, hbit, testBit_ofL]
    simp only [Bool.and_eq_true, List.contains_eq_mem, decide_eq_true_eq, List.mem_cons, List.not_mem_nil, or_false]
    constructor
    · rintro ⟨⟨_, h2⟩, _, h4⟩
      have : i = 0 := by omega
      subst this
      exact ⟨rfl, fun e => h2 e.symm⟩
    · rintro ⟨rfl, h2⟩
      exact ⟨⟨hn0, fun e => h2 e.symm⟩, by decide, rfl⟩
  have hsub : Sub (lessL (allS ts.length) [(a : Int)] &&& ofL [0]) (lessL (allS ts.length) [(a : Int)]) := fun i hi => by
    rw [Nat.testBit_and, Bool.and_eq_true] at hi
    exact hi.1
  have hop : Sm (lessL (allS ts.length) [(a : Int)]) := fun i hi => by
    cases hb : (lessL (allS ts.length) [(a : Int)]).testBit i with
    | false => rfl
    | true => have := (hbit i).1 hb; omega
  have key := mem_reach_op (ts := ts) hsub hop (Av (gra ts hc) a) (fun x hx => by
      obtain ⟨rfl, h2⟩ := (hs0 x).1 hx
      exact .zero h2) (fun b c hb he ho => .step hb he ((hbit c).1 ho).2) (fun Q h0 hs i hi => by
      induction hi with
      | zero h2 => exact h0 0 ((hs0 0).2 ⟨rfl, h2⟩)
      | step hv he hne ih => exact hs _ _ ih he ((hbit _).2 ⟨by have := (toAt_lt hc he).2.1; omega, hne⟩)) i
  unfold reachedF
  rw [hc, cond_true, mem_listS, key]
  constructor
  · exact fun h => h.2
  · intro h
    refine ⟨?_, h⟩
    have hm : i ∈ orderF ts := h.reached
    have := order_lt hc hm
    omega
theorem dom_left {ts : List Tm} (hc : closed ts = true) {a b : Nat} (ha : a < ts.length) : Dom (gra ts hc) a b ↔ b ∈ orderF ts ∧ b ∉ reachedF ts [0] [(a : Int)] := by
  rw [mem_left hc ha]
  exact Iff.rfl
theorem dom_lt {ts : List Tm} (hc : closed ts = true) {a b : Nat} (h : Dom (gra ts hc) a b) : a < ts.length := by
  refine Classical.byContradiction fun hn => ?_
  have hpos := (closed_le hc).1
  refine h.2 ?_
  have hr := (order_mem hc b).1 h.1
  induction hr with
  | refl => exact .zero (by omega)
  | step hr he ih =>
    have hb : (gra ts hc).R _ := (order_mem hc _).2 hr
    exact .step (ih ⟨hb, fun hv => h.2 (.step hv he (by have := (toAt_lt hc he).2.1; omega))⟩) he (by have := (toAt_lt hc he).2.1; omega)
/-- Does a way of so many steps avoid d? -/
def avB (ts : List Tm) (d : Nat) : Nat → Nat → Bool
  | 0, x => decide (x = 0) && !decide (d = 0)
  | k + 1, x => avB ts d k x || (!decide (x = d) && (preF ts x).any fun a => avB ts d k a)
theorem avB_sound {ts : List Tm} (hc : closed ts = true) {d : Nat} : ∀ (k x : Nat), avB ts d k x = true → Av (gra ts hc) d x
  | 0, x, h => by
    simp only [avB, Bool.and_eq_true, decide_eq_true_eq, Bool.not_eq_true', decide_eq_false_iff_not] at h
    rw [h.1]; exact .zero h.2
  | k + 1, x, h => by
    simp only [avB, Bool.or_eq_true, Bool.and_eq_true, List.any_eq_true, Bool.not_eq_true', decide_eq_false_iff_not] at h
    rcases h with h | ⟨h1, a, ha, h2⟩
    · exact avB_sound hc k x h
    · exact .step (avB_sound hc k a h2) (mem_preF.1 ha) h1
/-- A test that some numbers are the immediate dominators. -/
def checkDom (ts : List Tm) (ul : List Int) : Bool :=
  decide (ul.length = ts.length) && decide (asU ul 0 = -1) &&
  ((List.range ts.length).all fun x => bif decide (asU ul x < 0) then decide (asU ul x = -1) && (decide (x = 0) || !(orderF ts).contains x) else
    (orderF ts).contains x && (orderF ts).contains (asU ul x).toNat && decide ((orderF ts).idxOf (asU ul x).toNat < (orderF ts).idxOf x) && (decide ((asU ul x).toNat = 0) || decide (0 ≤ asU ul (asU ul x).toNat))) &&
  ((orderF ts).all fun x => (List.range ts.length).all fun d => (chF (asU ul) (ts.length + 1) x).contains d || avB ts d ts.length x) &&
  ((orderF ts).all fun x => (preF ts x).all fun a => !(orderF ts).contains a || (chF (asU ul) (ts.length + 1) x).all fun d => decide (d = x) || (chF (asU ul) (ts.length + 1) a).contains d)
theorem DomU.of_check {ts : List Tm} {ul : List Int} (h : checkDom ts ul = true) : DomU ts ul := by
  unfold checkDom at h
  simp only [Bool.and_eq_true, decide_eq_true_eq, List.all_eq_true, List.mem_range] at h
  obtain ⟨⟨⟨⟨h1, h2⟩, h3⟩, h4⟩, h5⟩ := h
  refine ⟨h1, fun hc => ?_⟩
  have hout : ∀ x, ts.length ≤ x → asU ul x = -1 := fun x hx => by
    unfold asU
    rw [List.getD_eq_getElem?_getD, List.getElem?_eq_none (by omega)]
    rfl
  have hin : ∀ x, 0 ≤ asU ul x → x < ts.length ∧ x ∈ orderF ts ∧ (asU ul x).toNat ∈ orderF ts ∧ (orderF ts).idxOf (asU ul x).toNat < (orderF ts).idxOf x ∧ ((asU ul x).toNat = 0 ∨ 0 ≤ asU ul (asU ul x).toNat) := fun x hx => by
    have hl : x < ts.length := by
      rcases Nat.lt_or_ge x ts.length with h | h
      · exact h
      · rw [hout x h] at hx; omega
    have := h3 x hl
    have hd : decide (asU ul x < 0) = false := by simp; omega
    rw [hd, cond_false] at this
    simp only [Bool.and_eq_true, List.contains_eq_mem, decide_eq_true_eq, Bool.or_eq_true] at this
    exact ⟨hl, this.1.1.1, this.1.1.2, this.1.2, this.2⟩
  have hneg : ∀ x, asU ul x < 0 → asU ul x = -1 ∧ (x = 0 ∨ x ∉ orderF ts) := fun x hx => by
    rcases Nat.lt_or_ge x ts.length with hl | hl
    · have := h3 x hl
      have hd : decide (asU ul x < 0) = true := by simpa using hx
      rw [hd, cond_true] at this
      simp only [Bool.and_eq_true, List.contains_eq_mem, decide_eq_true_eq, Bool.or_eq_true, Bool.not_eq_true', decide_eq_false_iff_not] at this
      exact this
    · exact ⟨hout x hl, .inr fun hm => by have := order_lt hc hm; omega⟩
  have htr : Tr (gra ts hc) (asU ul) := ⟨h2, fun b hb => by
    obtain ⟨_, h5, h6, h7, h8⟩ := hin b hb
    exact ⟨h5, h6, h7, h8⟩⟩
  have hpl : ∀ x, x ∈ orderF ts → (gra ts hc).pl x < ts.length + 1 := fun x hx => by
    have h5 : (orderF ts).idxOf x < (orderF ts).length := List.idxOf_lt_length_of_mem hx
    have h6 := order_len_le hc
    show (orderF ts).idxOf x < _
    omega
  refine ⟨htr, fun c hcR => ?_, fun d x hx => ?_, fun c hcR => ?_⟩
  · rcases Int.lt_or_le (asU ul c) 0 with hu | hu
    · exact .inl ((hneg c hu).2.resolve_right fun hn => hn hcR)
    · exact .inr hu
  · constructor
    · intro hd
      refine ⟨hx, fun hv => ?_⟩
      have key : ∀ x, Av (gra ts hc) d x → ¬ Upw (asU ul) d x := by
        intro x hv
        induction hv with
        | zero h0 =>
          intro ha
          rcases ha.inv with e | ⟨e, _⟩
          · exact h0 e
          · omega
        | @step a x hv he hne ih =>
          intro ha
          have hra : a ∈ orderF ts := hv.reached
          have hrx : x ∈ orderF ts := order_edge' hc hra he
          have h6 := h5 x hrx a (mem_preF.2 he)
          simp only [Bool.or_eq_true, Bool.not_eq_true', List.contains_eq_mem, decide_eq_false_iff_not, List.all_eq_true, decide_eq_true_eq] at h6
          rcases h6 with h6 | h6
          · exact h6 hra
          · rcases h6 d ((mem_chF htr _ _ _ (hpl x hrx)).2 ha) with h7 | h7
            · exact hne h7.symm
            · exact ih ((mem_chF htr _ _ _ (hpl a hra)).1 h7)
      exact key x hv hd
    · intro hd
      have hdl := dom_lt hc hd
      have := h4 x hx d hdl
      simp only [Bool.or_eq_true, List.contains_eq_mem, decide_eq_true_eq] at this
      rcases this with h7 | h7
      · exact (mem_chF htr _ _ _ (hpl x hx)).1 h7
      · exact absurd (avB_sound hc _ _ h7) hd.2
  · rcases Int.lt_or_le (asU ul c) 0 with hu | hu
    · exact (hneg c hu).1
    · exact absurd (hin c hu).2.1 hcR
end Go.Proofs.YtkefmjhagmacfaaGreatDoor

