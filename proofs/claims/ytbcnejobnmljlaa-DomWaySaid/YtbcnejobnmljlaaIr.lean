/- The package ir: ends, where they go; the slices' functions that they call, walked. -/
import Derived.Test.YtbcnejobnmljlaaTypes
import Derived.Test.YtbcnejobnmljlaaModel
namespace Go.Proofs.Ytbcnejobnmljlaa
set_option linter.unusedVariables false
open Go Go.RowKit
set_option maxRecDepth 100000

section
theorem ir_variable_ct {w : World} {n : Int} : Ct Try.prog 39 #[.int .i64 n] w (Is (.bool (varB n))) := by
  refine Ct.mk Try.func39 rfl rfl ?_
  refine Cd.seq ?_
  refine Cd.region ?_
  refine Ol.p asb ?_
  refine Ol.nil ?_
  refine Cd.seq ?_
  cases h : decide (1 ≤ n) with
  | true =>
    refine Cd.region ?_
    refine Ol.p mvi ?_
    refine Ol.p gei ?_
    refine Ol.p mvb ?_
    refine Ol.gp h mvi ?_
    refine Ol.gp h lei ?_
    refine Ol.p (pkTb h) ?_
    refine Ol.p asb ?_
    refine Ol.nil ?_
    refine Cd.ret ⟨.bool _, ret1 rfl rfl, [], .nil, ?_, rfl⟩
    unfold varB; rw [h]; rfl
  | false =>
    refine Cd.region ?_
    refine Ol.p mvi ?_
    refine Ol.p gei ?_
    refine Ol.p mvb ?_
    refine Ol.gn h ?_
    refine Ol.gn h ?_
    refine Ol.p (pkFb h) ?_
    refine Ol.p asb ?_
    refine Ol.nil ?_
    refine Cd.ret ⟨.bool _, ret1 rfl rfl, [], .nil, ?_, rfl⟩
    unfold varB; rw [h]; rfl
theorem ir_fits_ct {w : World} {b : Bool} {n : Int} : Ct Try.prog 40 #[.bool b, .int .i64 n] w (Is (.bool (fitsB b n))) := by
  refine Ct.mk Try.func40 rfl rfl ?_
  refine Cd.seq ?_
  refine Cd.region ?_
  refine Ol.p asb ?_
  refine Ol.nil ?_
  refine Cd.seq ?_
  refine Cd.seq ?_
  refine Cd.region ?_
  refine Ol.p mvb ?_
  refine Ol.nil ?_
  refine Cd.cond rfl (fun h => ?_) (fun h => ?_)
  · subst h
    refine Cd.seq ?_
    refine Cd.region ?_
    refine Ol.p mvi ?_
    refine Ol.s (cl en_ir_variable (fun M w' hh => ir_variable_ct)) ?_
    refine Ol.p asb ?_
    refine Ol.nil ?_
    refine Cd.ret ⟨.bool _, ret1 rfl rfl, [], .nil, rfl, rfl⟩
  · subst h
    refine Cd.skip ?_
    refine Cd.seq ?_
    refine Cd.region ?_
    refine Ol.p mvi ?_
    refine Ol.p eqi ?_
    refine Ol.p asb ?_
    refine Ol.nil ?_
    refine Cd.ret ⟨.bool _, ret1 rfl rfl, [], .nil, rfl, rfl⟩
end

/-- The place of the first one that p takes. -/
def indexI {α : Type} (p : α → Bool) (l : List α) : Int := match l.findIdx? p with
  | some i => (i : Int)
  | none => -1
theorem indexI_at {α : Type} {p : α → Bool} {l : List α} {k : Nat} {x : α} (hx : l[k]? = some x) (hp : p x = true) (hb : ∀ i y, i < k → l[i]? = some y → p y = false) : indexI p l = (k : Int) := by
  have hk := (List.getElem?_eq_some_iff.1 hx).1
  have : l.findIdx? p = some k := by
    rw [List.findIdx?_eq_some_iff_getElem]
    refine ⟨hk, ?_, ?_⟩
    · rw [(List.getElem?_eq_some_iff.1 hx).2]; exact hp
    · intro j hj
      rw [hb j l[j] hj (List.getElem?_eq_getElem (by omega))]; simp
  unfold indexI; rw [this]
theorem indexI_none {α : Type} {p : α → Bool} {l : List α} (hb : ∀ i y, i < l.length → l[i]? = some y → p y = false) : indexI p l = -1 := by
  have : l.findIdx? p = none := by
    rw [List.findIdx?_eq_none_iff]
    intro x hx
    obtain ⟨i, hi, rfl⟩ := List.getElem_of_mem hx
    exact hb i _ hi (List.getElem?_eq_getElem hi)
  unfold indexI; rw [this]
theorem indexI_ge {α : Type} (p : α → Bool) (l : List α) : decide ((0 : Int) ≤ indexI p l) = l.any p := by
  rw [Bool.eq_iff_iff, decide_eq_true_iff]
  unfold indexI
  cases h : l.findIdx? p with
  | none =>
    rw [List.findIdx?_eq_none_iff] at h
    constructor
    · intro h0; simp at h0
    · intro h0
      rw [List.any_eq_true] at h0
      obtain ⟨x, hx, hp⟩ := h0
      rw [h x hx] at hp; cases hp
  | some i =>
    rw [List.findIdx?_eq_some_iff_getElem] at h
    obtain ⟨hi, hp, _⟩ := h
    constructor
    · intro _
      rw [List.any_eq_true]
      exact ⟨_, List.getElem_mem hi, hp⟩
    · intro _; show (0 : Int) ≤ (i : Int); omega
theorem indexI_lt {α : Type} (p : α → Bool) (l : List α) : indexI p l < l.length := by
  unfold indexI
  cases h : l.findIdx? p with
  | none => simp; omega
  | some i =>
    rw [List.findIdx?_eq_some_iff_getElem] at h
    obtain ⟨hi, _⟩ := h
    show (i : Int) < l.length
    omega
/-- A function value that tells whether something is so of numbers. -/
def TellsI (P : Program) (w : World) (g : FuncId) (fst cap : Array Value) (l : List Int) (p : Int → Bool) : Prop := Ent P g ∧ ∀ n ∈ l, ∀ w', Below w.heap.size w w' → Ct P g (fst ++ #[.int .i64 n] ++ cap) w' (Is (.bool (p n)))
section
theorem slices_IndexFunc_L_int_int_ct {w : World} {A : Option Addr} {c : Nat} {l : List Int} {g : FuncId} {fst cap : Array Value} {p : Int → Bool} (hl : Reads w w.heap.size 1 A l.length (ints l)) (hb : l.length < 2 ^ 62) (hf : TellsI Try.prog w g fst cap l p) :
    Ct Try.prog 45 #[.slice A l.length c, .func (.func g) fst cap] w (Is (.int .i64 (indexI p l))) := by
  refine Ct.mk Try.func45 rfl rfl ?_
  refine Cd.seq ?_
  refine Cd.region ?_
  refine Ol.p asi ?_
  refine Ol.nil ?_
  refine Cd.seq ?_
  refine Cd.seq ?_
  refine Cd.region ?_
  refine Ol.p mvs ?_
  refine Ol.p (lens sl_L_int) ?_
  refine Ol.p mvi ?_
  refine Ol.nil ?_
  refine Cd.block ?_
  refine Cd.loop (fun m σ L => ∃ k, m = l.length - k ∧ k ≤ l.length ∧ Has σ [(0, .slice A l.length c), (1, .func (.func g) fst cap), (7, .int .i64 l.length), (8, .int .i64 k)] ∧ L = [] ∧ ∀ i y, i < k → l[i]? = some y → p y = false) (n := l.length) ⟨0, rfl, Nat.zero_le _, ⟨rfl, rfl, rfl, rfl, trivial⟩, rfl, fun i y h => by omega⟩ ?_
  rintro _ σ L ⟨k, rfl, hk, hs, rfl, hno⟩
  refine Cd.has hs ?_
  refine Cd.seq ?_
  refine Cd.region ?_
  refine Ol.p lsi ?_
  refine Ol.nil ?_
  refine Cd.seq ?_
  refine Cd.cond rfl (fun h => ?_) (fun h => ?_)
  · have hlt : k < l.length := by simpa using h
    refine Cd.skip ?_
    refine Cd.seq ?_
    refine Cd.block ?_
    refine Cd.seq ?_
    refine Cd.region ?_
    refine Ol.p mvi ?_
    refine Ol.p asi ?_
    refine Ol.nil ?_
    refine Cd.seq ?_
    refine Cd.region ?_
    refine Ol.p mvf ?_
    refine Ol.p mvs ?_
    refine Ol.p mvi ?_
    refine Ol.p (ixn1 sl_L_int (Som.slc hl (by omega))) ?_
    refine Ol.p (ld one_int (Rd.slc hl (ints_get hlt))) ?_
    refine Ol.x (sp_callv hf.1 (fun M w' hh => hf.2 _ (List.getElem_mem hlt) w' hh.below)) ?_
    rintro _ _ ⟨_, rfl, rfl, rfl⟩
    refine Ol.nil ?_
    refine Cd.cond rfl (fun h2 => ?_) (fun h2 => ?_)
    · refine Cd.seq ?_
      refine Cd.region ?_
      refine Ol.p mvi ?_
      refine Ol.p asi ?_
      refine Ol.nil ?_
      refine Cd.ret ⟨_, ret1 rfl rfl, [], .nil, ?_, rfl⟩
      rw [indexI_at (List.getElem?_eq_getElem hlt) h2 hno]
      rfl
    · refine Cd.skip ?_
      refine Cd.region ?_
      refine Ol.p addi ?_
      refine Ol.p mvi ?_
      refine Ol.nil ?_
      refine ⟨l.length - (k + 1), by omega, k + 1, rfl, by omega, ⟨rfl, rfl, rfl, rfl, trivial⟩, rfl, ?_⟩
      intro i y hi hy
      rcases Nat.lt_or_ge i k with h3 | h3
      · exact hno i y h3 hy
      · have : i = k := by omega
        subst this
        rw [List.getElem?_eq_getElem hlt] at hy
        cases hy
        exact h2
  · have hge : k = l.length := by
      have : ¬ (k : Int) < l.length := by simpa using h
      omega
    subst hge
    refine Cd.exit (id := 0) ?_
    refine Cd.seq ?_
    refine Cd.region ?_
    refine Ol.p asi ?_
    refine Ol.nil ?_
    refine Cd.ret ⟨_, ret1 rfl rfl, [], .nil, ?_, rfl⟩
    rw [indexI_none hno]
    rfl
theorem slices_ContainsFunc_L_int_int_ct {w : World} {A : Option Addr} {c : Nat} {l : List Int} {g : FuncId} {fst cap : Array Value} {p : Int → Bool} (hl : Reads w w.heap.size 1 A l.length (ints l)) (hb : l.length < 2 ^ 62) (hf : TellsI Try.prog w g fst cap l p) :
    Ct Try.prog 43 #[.slice A l.length c, .func (.func g) fst cap] w (Is (.bool (l.any p))) := by
  refine Ct.mk Try.func43 rfl rfl ?_
  refine Cd.seq ?_
  refine Cd.region ?_
  refine Ol.p asb ?_
  refine Ol.nil ?_
  refine Cd.seq ?_
  refine Cd.region ?_
  refine Ol.p mvs ?_
  refine Ol.p mvf ?_
  refine Ol.s (cl en_slices_IndexFunc_L_int_int (fun M w' hh => slices_IndexFunc_L_int_int_ct (hl.now hh) hb ⟨hf.1, fun n hn w2 h2 => hf.2 n hn w2 (hh.below.trans (h2.mono hh.le))⟩)) ?_
  refine Ol.p gei ?_
  refine Ol.p asb ?_
  refine Ol.nil ?_
  refine Cd.ret ⟨.bool _, ret1 rfl rfl, [], .nil, ?_, rfl⟩
  rw [indexI_ge]
end
theorem Tm.tos (t : Tm) : ∀ (j : Nat) (u : Value), (ints [t.t0, t.t1])[j]? = some u → t.cells.toArray[2 + j]? = some u
  | 0, _, h => h
  | 1, _, h => h
  | _ + 2, _, h => by simp [ints] at h
section
theorem ir_none_1_ct {w : World} {n : Int} : Ct Try.prog 44 #[.int .i64 n] w (Is (.bool (!decide (n = 0)))) := by
  refine Ct.mk Try.func44 rfl rfl ?_
  refine Cd.seq ?_
  refine Cd.region ?_
  refine Ol.p asb ?_
  refine Ol.nil ?_
  refine Cd.seq ?_
  refine Cd.region ?_
  refine Ol.p mvi ?_
  refine Ol.p nei ?_
  refine Ol.p asb ?_
  refine Ol.nil ?_
  refine Cd.ret ⟨.bool _, ret1 rfl rfl, [], .nil, rfl, rfl⟩
theorem ir_none_ct {w : World} {A : Option Addr} {c : Nat} {l : List Int} (hl : Reads w w.heap.size 1 A l.length (ints l)) (hb : l.length < 2 ^ 62) : Ct Try.prog 38 #[.slice A l.length c] w (Is (.bool (noneB l))) := by
  refine Ct.mk Try.func38 rfl rfl ?_
  refine Cd.seq ?_
  refine Cd.region ?_
  refine Ol.p asb ?_
  refine Ol.nil ?_
  refine Cd.seq ?_
  refine Cd.region ?_
  refine Ol.p mvs ?_
  refine Ol.s (cl en_slices_ContainsFunc_L_int_int (fun M w' hh => slices_ContainsFunc_L_int_int_ct (g := 44) (fst := #[]) (cap := #[]) (p := fun n => !decide (n = 0)) (hl.now hh) hb ⟨en_ir_none_1, fun n hn w2 h2 => ir_none_1_ct⟩)) ?_
  refine Ol.p noti ?_
  refine Ol.p asb ?_
  refine Ol.nil ?_
  refine Cd.ret ⟨.bool _, ret1 rfl rfl, [], .nil, ?_, rfl⟩
  unfold noneB
  rw [List.not_any_eq_all_not]
  simp
set_option maxHeartbeats 1000000 in
theorem ir_IsTerm_ct {w : World} {t : Tm} : Ct Try.prog 30 #[t.val] w (Is (.bool (isTerm t))) := by
  refine Ct.mk Try.func30 rfl rfl ?_
  refine Cd.seq ?_
  refine Cd.region ?_
  refine Ol.x bxg ?_
  rintro _ _ ⟨g1, rfl, rfl⟩
  refine Ol.p asb ?_
  refine Ol.nil ?_
  refine Cd.seq ?_
  refine Cd.seq ?_
  refine Cd.region ?_
  refine Ol.p (fdl fd_api_Term_0) ?_
  refine Ol.p (ld one_api_TermKind (Rd.blk (i := 0) rfl rfl)) ?_
  refine Ol.nil ?_
  refine Cd.block ?_
  refine Cd.seq ?_
  refine Cd.region ?_
  refine Ol.p eqi ?_
  refine Ol.p asb ?_
  refine Ol.nil ?_
  refine Cd.cond rfl (fun h1 => ?_) (fun h1 => ?_)
  · refine Cd.seq ?_
    refine Cd.region ?_
    refine Ol.p (fdl fd_api_Term_1) ?_
    refine Ol.p (ld one_int (Rd.blk (i := 0) rfl rfl)) ?_
    refine Ol.p (fdl fd_api_Term_2) ?_
    refine Ol.p (ixl (ix := 1) ar_A2_int) ?_
    refine Ol.p (ld one_int (Rd.blk (i := 0) rfl rfl)) ?_
    refine Ol.x (bsv [.int .i64 t.a, .int .i64 t.t1] sl_L_int zr_int (by simp [Value.cells])) ?_
    rintro _ _ ⟨g12, rfl, rfl⟩
    refine Ol.s (cl en_ir_none (fun M w' hh => ir_none_ct (l := [t.a, t.t1]) (Reads.row hh (i := 0) rfl) (by simp))) ?_
    refine Ol.p asb ?_
    refine Ol.nil ?_
    refine Cd.ret ⟨.bool _, ret1 rfl rfl, [], .nil, ?_, rfl⟩
    unfold isTerm; rw [h1]; rfl
  · refine Cd.seq ?_
    refine Cd.region ?_
    refine Ol.p eqi ?_
    refine Ol.p asb ?_
    refine Ol.nil ?_
    refine Cd.cond rfl (fun h2 => ?_) (fun h2 => ?_)
    · refine Cd.seq ?_
      refine Cd.region ?_
      refine Ol.p (fdl fd_api_Term_1) ?_
      refine Ol.p (ld one_int (Rd.blk (i := 0) rfl rfl)) ?_
      refine Ol.s (cl en_ir_variable (fun M w' hh => ir_variable_ct)) ?_
      refine Ol.p asb ?_
      refine Ol.nil ?_
      refine Cd.ret ⟨.bool _, ret1 rfl rfl, [], .nil, ?_, rfl⟩
      unfold isTerm; rw [h1, h2]; rfl
    · refine Cd.seq ?_
      refine Cd.region ?_
      refine Ol.p eqi ?_
      refine Ol.p asb ?_
      refine Ol.nil ?_
      refine Cd.cond rfl (fun h3 => ?_) (fun h3 => ?_)
      · refine Cd.seq ?_
        cases h4 : fitsB (!decide (t.a = 0)) t.a with
        | true =>
          refine Cd.region ?_
          refine Ol.p (fdl fd_api_Term_1) ?_
          refine Ol.p (ld one_int (Rd.blk (i := 0) rfl rfl)) ?_
          refine Ol.p nei ?_
          refine Ol.p (fdl fd_api_Term_1) ?_
          refine Ol.p (ld one_int (Rd.blk (i := 0) rfl rfl)) ?_
          refine Ol.s (cl en_ir_fits (fun M w' hh => ir_fits_ct)) ?_
          refine Ol.p mvb ?_
          refine Ol.gp h4 (fdl fd_api_Term_2) ?_
          refine Ol.gp h4 (sla ar_A2_int) ?_
          refine Ol.gs h4 (cl en_ir_none (fun M w' hh => ir_none_ct (l := [t.t0, t.t1]) (Reads.blk hh (i := 0) rfl rfl t.tos) (by simp))) ?_
          refine Ol.p (pkTb h4) ?_
          refine Ol.p asb ?_
          refine Ol.nil ?_
          refine Cd.ret ⟨.bool _, ret1 rfl rfl, [], .nil, ?_, rfl⟩
          unfold isTerm; rw [h1, h2, h3, h4]; rfl
        | false =>
          refine Cd.region ?_
          refine Ol.p (fdl fd_api_Term_1) ?_
          refine Ol.p (ld one_int (Rd.blk (i := 0) rfl rfl)) ?_
          refine Ol.p nei ?_
          refine Ol.p (fdl fd_api_Term_1) ?_
          refine Ol.p (ld one_int (Rd.blk (i := 0) rfl rfl)) ?_
          refine Ol.s (cl en_ir_fits (fun M w' hh => ir_fits_ct)) ?_
          refine Ol.p mvb ?_
          refine Ol.gn h4 ?_
          refine Ol.gn h4 ?_
          refine Ol.gn h4 ?_
          refine Ol.p (pkFb h4) ?_
          refine Ol.p asb ?_
          refine Ol.nil ?_
          refine Cd.ret ⟨.bool _, ret1 rfl rfl, [], .nil, ?_, rfl⟩
          unfold isTerm; rw [h1, h2, h3, h4]; rfl
      · refine Cd.skip ?_
        refine Cd.seq ?_
        cases h4 : decide (t.kind = 4) with
        | true =>
          refine Cd.region ?_
          refine Ol.p (fdl fd_api_Term_0) ?_
          refine Ol.p (ld one_api_TermKind (Rd.blk (i := 0) rfl rfl)) ?_
          refine Ol.p eqi ?_
          refine Ol.p mvb ?_
          refine Ol.gp h4 (fdl fd_api_Term_1) ?_
          refine Ol.gp h4 (ld one_int (Rd.blk (i := 0) rfl rfl)) ?_
          refine Ol.gp h4 (fdl fd_api_Term_2) ?_
          refine Ol.gp h4 (ixl (ix := 0) ar_A2_int) ?_
          refine Ol.gp h4 (ld one_int (Rd.blk (i := 0) rfl rfl)) ?_
          refine Ol.gp h4 (fdl fd_api_Term_2) ?_
          refine Ol.gp h4 (ixl (ix := 1) ar_A2_int) ?_
          refine Ol.gp h4 (ld one_int (Rd.blk (i := 0) rfl rfl)) ?_
          refine Ol.gx h4 (bsv [.int .i64 t.a, .int .i64 t.t0, .int .i64 t.t1] sl_L_int zr_int (by simp [Value.cells])) ?_
          rintro _ _ ⟨g44, rfl, rfl⟩
          refine Ol.gs h4 (cl en_ir_none (fun M w' hh => ir_none_ct (l := [t.a, t.t0, t.t1]) (Reads.row hh (i := 0) rfl) (by simp))) ?_
          refine Ol.p (pkTb h4) ?_
          refine Ol.p asb ?_
          refine Ol.nil ?_
          refine Cd.ret ⟨.bool _, ret1 rfl rfl, [], .nil, ?_, rfl⟩
          unfold isTerm; rw [h1, h2, h3, h4]; rfl
        | false =>
          refine Cd.region ?_
          refine Ol.p (fdl fd_api_Term_0) ?_
          refine Ol.p (ld one_api_TermKind (Rd.blk (i := 0) rfl rfl)) ?_
          refine Ol.p eqi ?_
          refine Ol.p mvb ?_
          refine Ol.gn h4 ?_
          refine Ol.gn h4 ?_
          refine Ol.gn h4 ?_
          refine Ol.gn h4 ?_
          refine Ol.gn h4 ?_
          refine Ol.gn h4 ?_
          refine Ol.gn h4 ?_
          refine Ol.gn h4 ?_
          refine Ol.gn h4 ?_
          refine Ol.gn h4 ?_
          refine Ol.p (pkFb h4) ?_
          refine Ol.p asb ?_
          refine Ol.nil ?_
          refine Cd.ret ⟨.bool _, ret1 rfl rfl, [], .nil, ?_, rfl⟩
          unfold isTerm; rw [h1, h2, h3, h4]; rfl
end
section
theorem slices_Clone_L_int_int_ct {w : World} {A : Option Addr} {c n : Nat} {xs : List Value} (hl : Reads w w.heap.size 1 A n xs) (h1 : ∀ u ∈ xs, u.oneCell' = true) (hb : n < 2 ^ 43) : Ct Try.prog 31 #[.slice A n c] w (NewL 3 1 n xs) := by
  refine Ct.mk Try.func31 rfl rfl ?_
  refine Cd.seq ?_
  refine Cd.region ?_
  refine Ol.p ass ?_
  refine Ol.nil ?_
  refine Cd.seq ?_
  refine Cd.seq ?_
  refine Cd.region ?_
  refine Ol.p mvs ?_
  refine Ol.p (esn sl_L_int) ?_
  refine Ol.nil ?_
  refine Cd.cond rfl (fun h => ?_) (fun h => ?_)
  · refine Cd.seq ?_
    refine Cd.region ?_
    refine Ol.p ass ?_
    refine Ol.nil ?_
    refine Cd.nr 3 1 ?_
    have h0 : n = 0 := by
      rcases Nat.eq_zero_or_pos n with h0 | h0
      · exact h0
      · obtain ⟨a, rfl, _⟩ := hl.2 h0; cases h
    subst h0
    have hx : xs = [] := List.eq_nil_of_length_eq_zero (by simpa using hl.1)
    subst hx
    refine Cd.ret ⟨.slice none 0 0, ret1 rfl rfl, _, .all, none, 0, rfl, rfl⟩
  · refine Cd.skip ?_
    refine Cd.seq ?_
    refine Cd.region ?_
    refine Ol.x (bsv [] sl_L_int zr_int (by simp)) ?_
    rintro _ _ ⟨g5, rfl, rfl⟩
    refine Ol.p mvs ?_
    refine Ol.x (apn (i := 0) (n := 0) (xs := []) sl_L_int zr_int rfl (by decide) rfl (Src.slc hl) h1 (by unfold maxLen; omega) (by omega)) ?_
    rintro _ _ ⟨A', c', rfl, rfl⟩
    refine Ol.p ass ?_
    refine Ol.nil ?_
    rw [Nat.zero_add]
    refine Cd.ret ⟨.slice A' n c', ret1 rfl rfl, _, .all, A', c', rfl, rfl⟩
end
section
set_option maxHeartbeats 1000000 in
theorem ir_To_ct {w : World} {t : Tm} : Ct Try.prog 25 #[t.val] w (NewL 3 1 (toL t).length (ints (toL t))) := by
  refine Ct.mk Try.func25 rfl rfl ?_
  refine Cd.seq ?_
  refine Cd.region ?_
  refine Ol.x bxg ?_
  rintro _ _ ⟨g1, rfl, rfl⟩
  refine Ol.p ass ?_
  refine Ol.nil ?_
  refine Cd.seq ?_
  refine Cd.block ?_
  refine Cd.seq ?_
  refine Cd.region ?_
  refine Ol.p (ldw ag_api_Term (i := 0) rfl rfl) ?_
  refine Ol.s (cl en_ir_IsTerm (fun M w' hh => ir_IsTerm_ct (t := t))) ?_
  refine Ol.p noti ?_
  refine Ol.p asb ?_
  refine Ol.nil ?_
  refine Cd.cond rfl (fun h1 => ?_) (fun h1 => ?_)
  · have e : toL t = [] := by unfold toL; cases h : isTerm t <;> simp [h] at h1 ⊢
    rw [e]
    refine Cd.skip ?_
    refine Cd.seq ?_
    refine Cd.region ?_
    refine Ol.p ass ?_
    refine Ol.nil ?_
    refine Cd.nr 3 1 ?_
    refine Cd.ret ⟨.slice none 0 0, ret1 rfl rfl, _, .sub (.cons_cons _ (.cons _ .slnil)), none, 0, rfl, rfl⟩
  · have e1 : isTerm t = true := by simpa using h1
    refine Cd.seq ?_
    refine Cd.region ?_
    refine Ol.p (fdl fd_api_Term_0) ?_
    refine Ol.p (ld one_api_TermKind (Rd.blk (i := 0) rfl rfl)) ?_
    refine Ol.p eqi ?_
    refine Ol.p asb ?_
    refine Ol.nil ?_
    refine Cd.cond rfl (fun h2 => ?_) (fun h2 => ?_)
    · have e : toL t = [t.t0] := by unfold toL; rw [e1, h2]; rfl
      rw [e]
      refine Cd.seq ?_
      refine Cd.region ?_
      refine Ol.p (fdl fd_api_Term_2) ?_
      refine Ol.p (ixl (ix := 0) ar_A2_int) ?_
      refine Ol.p (ld one_int (Rd.blk (i := 0) rfl rfl)) ?_
      refine Ol.x (bsv [.int .i64 t.t0] sl_L_int zr_int (by simp [Value.cells])) ?_
      rintro _ _ ⟨g14, rfl, rfl⟩
      refine Ol.p ass ?_
      refine Ol.nil ?_
      refine Cd.ret ⟨.slice _ _ _, ret1 rfl rfl, _, .sub (.cons_cons _ (.cons _ .slnil)), _, _, rfl, rfl⟩
    · refine Cd.seq ?_
      refine Cd.region ?_
      refine Ol.p (fdl fd_api_Term_0) ?_
      refine Ol.p (ld one_api_TermKind (Rd.blk (i := 0) rfl rfl)) ?_
      refine Ol.p eqi ?_
      refine Ol.p asb ?_
      refine Ol.nil ?_
      refine Cd.cond rfl (fun h3 => ?_) (fun h3 => ?_)
      · have e : toL t = [t.t0, t.t1] := by unfold toL; rw [e1, h2, h3]; rfl
        rw [e]
        refine Cd.seq ?_
        refine Cd.region ?_
        refine Ol.p (fdl fd_api_Term_2) ?_
        refine Ol.p (sla ar_A2_int) ?_
        refine Ol.x (sp_call en_slices_Clone_L_int_int (fun M w' hh => slices_Clone_L_int_int_ct (xs := ints [t.t0, t.t1]) (Reads.blk hh (i := 0) rfl rfl t.tos) (ints_one _) (by simp [ints]))) ?_
        rintro _ _ ⟨_, rfl, A, c, rfl, rfl⟩
        refine Ol.p ass ?_
        refine Ol.nil ?_
        refine Cd.ret ⟨.slice _ _ _, ret1 rfl rfl, _, .sub (.cons_cons _ (.cons _ .slnil)), _, _, rfl, rfl⟩
      · have e : toL t = [] := by unfold toL; rw [e1, h2, h3]; rfl
        rw [e]
        refine Cd.skip ?_
        refine Cd.seq ?_
        refine Cd.region ?_
        refine Ol.p ass ?_
        refine Ol.nil ?_
        refine Cd.nr 3 1 ?_
        refine Cd.ret ⟨.slice none 0 0, ret1 rfl rfl, _, .sub (.cons_cons _ (.cons _ .slnil)), none, 0, rfl, rfl⟩
end
end Go.Proofs.Ytbcnejobnmljlaa
