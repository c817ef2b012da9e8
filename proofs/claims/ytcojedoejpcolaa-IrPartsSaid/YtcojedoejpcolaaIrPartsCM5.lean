/- IrParts: for every input that can be read, the law IrParts returns true and its arguments read as before. Conditions: the row. -/
/- Part 5 of the proof of IrPartsC: the texts Apart, IrVars, Count, Pick, Law03, IrParts, OpenL, OpenF, OpenN, IrPartsC, one behind the other. -/
import Derived.Deep.Slices
import Derived.Test.YtcojedoejpcolaaIrPartsCM4
/- The kit: ApartInts, walked. -/
namespace Go.Proofs.Ytcojedoejpcolaa
set_option linter.unusedVariables false
set_option linter.unusedSimpArgs false
open Go Go.RowKit
set_option maxRecDepth 100000
section
/-- A bag that holds lists of numbers alone. -/
def bagC (v : Value) : Array Value := #[.slice none 0 0, .slice none 0 0, v, .slice none 0 0, .slice none 0 0, .slice none 0 0, .slice none 0 0, .slice none 0 0, .slice none 0 0, .slice none 0 0, .slice none 0 0, .slice none 0 0, .slice none 0 0, .slice none 0 0, .slice none 0 0, .slice none 0 0, .slice none 0 0]
theorem hdL_succ (N : Nat) (it : Nat → Li) : hdL (N + 1) it = hdL N it ++ [.slice (it N).A (it N).n (it N).c] := by simp [hdL, List.range_succ, Li.v]
theorem kit_putInts_cm {w0 : World} {B g n c nl cl : Nat} {A Al : Option Addr} {hs : List Value} (hho : n < 50000) :
    Cm Try.prog 75 #[.pointer (some ⟨g, 0, none⟩), .slice Al nl cl] w0 B [blk g (.cells (bagC (.slice A n c)) 120), row (.slice A n c) 23 1 n hs] (fun v L => v = .tuple #[] ∧ ∃ A' c', L = [blk g (.cells (bagC (.slice A' (n + 1) c')) 120), row (.slice A' (n + 1) c') 23 1 (n + 1) (hs ++ [.slice Al nl cl])]) := by
  refine Cm.mk Try.func75 rfl rfl fun M => ?_
  refine Cd.region ?_
  refine Ol.p mvp ?_
  refine Ol.p mvp ?_
  refine Ol.p nlc ?_
  refine Ol.p (fda fd_kit_bag_2) ?_
  refine Ol.p (ld (v := .slice A n c) one_L_L_int (Rd.blk (i := 0) (k := 2) rfl rfl)) ?_
  refine Ol.p mvs ?_
  refine Ol.x (bsv [.slice Al nl cl] sl_L_L_int zr_L_int (by simp [Value.cells])) ?_
  rintro _ _ ⟨g9, rfl, rfl⟩
  refine Ol.x (apn (i := 2) (n := n) (m := 1) sl_L_L_int zr_L_int rfl (by decide) rfl (Src.row (i := 0) rfl rfl) (by intro u hu; simp at hu; subst hu; rfl) (by unfold maxLen; omega) (by omega)) ?_
  rintro _ _ ⟨A', c', rfl, rfl⟩
  refine Ol.p nlc ?_
  refine Ol.p (fda fd_kit_bag_2) ?_
  refine Ol.s (sto (i := 1) (k := 2) (v := .slice A' (n + 1) c') (.inr sz_L_L_int) rfl rfl rfl (by simp [bagC]) rfl) ?_
  refine Ol.nil ?_
  exact ⟨_, ret0 rfl, _, .sub (.cons _ (List.Sublist.refl _)), rfl, A', c', rfl⟩

theorem kit_apart_cm {w0 : World} {B g N cL : Nat} {AL : Option Addr} {it : Nat → Li} {X0 : Nat → List Value} (hN : N < 50000) (hx0 : ∀ k, k < N → (X0 k).length = (it k).m) (hnm : ∀ k, k < N → (it k).n ≤ (it k).m) (hns : ∀ k, k < N → (it k).n < 2 ^ 39) :
    Cm Try.prog 76 #[.pointer (some ⟨g, 0, none⟩)] w0 B (blk g (.cells (bagC (.slice AL N cL)) 120) :: row (.slice AL N cL) 23 1 N (hdL N it) :: rowsL N it X0) (Is (.bool true)) := by
  refine Cm.mk Try.func76 rfl rfl fun M => ?_
  refine Cd.seq ?_
  refine Cd.region ?_
  refine Ol.p asb ?_
  refine Ol.nil ?_
  refine Cd.seq ?_
  refine Cd.region ?_
  refine Ol.p mvp ?_
  refine Ol.p nlc ?_
  refine Ol.p (fda fd_kit_bag_0) ?_
  refine Ol.p (ld (v := .slice none 0 0) one_L_L_uint32 (Rd.blk (i := 0) (k := 0) rfl rfl)) ?_
  refine Ol.s (cl en_kit_flatLimbs (fun M w' hh => kit_flatLimbs_nil)) ?_
  refine Ol.p mvb ?_
  refine Ol.gp rfl mvp ?_
  refine Ol.gp rfl nlc ?_
  refine Ol.gp rfl (fda fd_kit_bag_1) ?_
  refine Ol.gp rfl (ld (v := .slice none 0 0) one_L_L_uint64 (Rd.blk (i := 0) (k := 1) rfl rfl)) ?_
  refine Ol.gs rfl (cl en_kit_flatWords (fun M w' hh => kit_flatWords_nil)) ?_
  refine Ol.p (pkTb rfl) ?_
  refine Ol.p mvb ?_
  refine Ol.gp rfl mvp ?_
  refine Ol.gp rfl nlc ?_
  refine Ol.gp rfl (fda fd_kit_bag_2) ?_
  refine Ol.gp rfl (ld (v := .slice AL N cL) one_L_L_int (Rd.blk (i := 0) (k := 2) rfl rfl)) ?_
  refine Ol.gx rfl (sp_callm (vs := [.slice AL N cL]) (Lin := row (.slice AL N cL) 23 1 N (hdL N it) :: rowsL N it X0) (L2 := [blk g (.cells (bagC (.slice AL N cL)) 120)]) en_kit_flatInts (List.perm_append_comm (l₁ := [blk g (.cells (bagC (.slice AL N cL)) 120)])) (kit_flatInts_cm hN hx0 hnm hns)) ?_
  rintro _ _ ⟨_, rfl, rfl, rfl⟩
  refine Ol.p (pkTb rfl) ?_
  refine Ol.p mvb ?_
  refine Ol.gp rfl mvp ?_
  refine Ol.gp rfl nlc ?_
  refine Ol.gp rfl (fda fd_kit_bag_3) ?_
  refine Ol.gp rfl (ld (v := .slice none 0 0) one_L_L_int64 (Rd.blk (i := 0) (k := 3) rfl rfl)) ?_
  refine Ol.gs rfl (cl en_kit_flatLongs (fun M w' hh => kit_flatLongs_nil)) ?_
  refine Ol.p (pkTb rfl) ?_
  refine Ol.p mvb ?_
  refine Ol.gp rfl mvp ?_
  refine Ol.gp rfl nlc ?_
  refine Ol.gp rfl (fda fd_kit_bag_4) ?_
  refine Ol.gp rfl (ld (v := .slice none 0 0) one_L_L_string (Rd.blk (i := 0) (k := 4) rfl rfl)) ?_
  refine Ol.gs rfl (cl en_kit_flatTexts (fun M w' hh => kit_flatTexts_nil)) ?_
  refine Ol.p (pkTb rfl) ?_
  refine Ol.p mvb ?_
  refine Ol.gp rfl mvp ?_
  refine Ol.gp rfl nlc ?_
  refine Ol.gp rfl (fda fd_kit_bag_5) ?_
  refine Ol.gp rfl (ld (v := .slice none 0 0) one_L_L_uint8 (Rd.blk (i := 0) (k := 5) rfl rfl)) ?_
  refine Ol.gs rfl (cl en_kit_flatBytes (fun M w' hh => kit_flatBytes_nil)) ?_
  refine Ol.p (pkTb rfl) ?_
  refine Ol.p mvb ?_
  refine Ol.gp rfl mvp ?_
  refine Ol.gp rfl nlc ?_
  refine Ol.gp rfl (fda fd_kit_bag_6) ?_
  refine Ol.gp rfl (ld (v := .slice none 0 0) one_L_L_bool (Rd.blk (i := 0) (k := 6) rfl rfl)) ?_
  refine Ol.gs rfl (cl en_kit_flatTruths (fun M w' hh => kit_flatTruths_nil)) ?_
  refine Ol.p (pkTb rfl) ?_
  refine Ol.p mvb ?_
  refine Ol.gp rfl mvp ?_
  refine Ol.gp rfl nlc ?_
  refine Ol.gp rfl (fda fd_kit_bag_7) ?_
  refine Ol.gp rfl (ld (v := .slice none 0 0) one_L_L_api_Ins (Rd.blk (i := 0) (k := 7) rfl rfl)) ?_
  refine Ol.gs rfl (cl en_kit_flatRow (fun M w' hh => kit_flatRow_nil)) ?_
  refine Ol.p (pkTb rfl) ?_
  refine Ol.p mvb ?_
  refine Ol.gp rfl mvp ?_
  refine Ol.gp rfl nlc ?_
  refine Ol.gp rfl (fda fd_kit_bag_8) ?_
  refine Ol.gp rfl (ld (v := .slice none 0 0) one_L_L_api_Block (Rd.blk (i := 0) (k := 8) rfl rfl)) ?_
  refine Ol.gs rfl (cl en_kit_flatBlocks (fun M w' hh => kit_flatBlocks_nil)) ?_
  refine Ol.p (pkTb rfl) ?_
  refine Ol.p mvb ?_
  refine Ol.gp rfl mvp ?_
  refine Ol.gp rfl nlc ?_
  refine Ol.gp rfl (fda fd_kit_bag_9) ?_
  refine Ol.gp rfl (ld (v := .slice none 0 0) one_L_L_api_Func (Rd.blk (i := 0) (k := 9) rfl rfl)) ?_
  refine Ol.gs rfl (cl en_kit_flatFuncs (fun M w' hh => kit_flatFuncs_nil)) ?_
  refine Ol.p (pkTb rfl) ?_
  refine Ol.p mvb ?_
  refine Ol.gp rfl mvp ?_
  refine Ol.gp rfl nlc ?_
  refine Ol.gp rfl (fda fd_kit_bag_10) ?_
  refine Ol.gp rfl (ld (v := .slice none 0 0) one_L_L_api_Target (Rd.blk (i := 0) (k := 10) rfl rfl)) ?_
  refine Ol.gs rfl (cl en_kit_flatTargets (fun M w' hh => kit_flatTargets_nil)) ?_
  refine Ol.p (pkTb rfl) ?_
  refine Ol.p mvb ?_
  refine Ol.gp rfl mvp ?_
  refine Ol.gp rfl nlc ?_
  refine Ol.gp rfl (fda fd_kit_bag_11) ?_
  refine Ol.gp rfl (ld (v := .slice none 0 0) one_L_L_api_Machine (Rd.blk (i := 0) (k := 11) rfl rfl)) ?_
  refine Ol.gs rfl (cl en_kit_flatMachines (fun M w' hh => kit_flatMachines_nil)) ?_
  refine Ol.p (pkTb rfl) ?_
  refine Ol.p mvb ?_
  refine Ol.gp rfl mvp ?_
  refine Ol.gp rfl nlc ?_
  refine Ol.gp rfl (fda fd_kit_bag_12) ?_
  refine Ol.gp rfl (ld (v := .slice none 0 0) one_L_L_api_Loc (Rd.blk (i := 0) (k := 12) rfl rfl)) ?_
  refine Ol.gs rfl (cl en_kit_flatLocs (fun M w' hh => kit_flatLocs_nil)) ?_
  refine Ol.p (pkTb rfl) ?_
  refine Ol.p mvb ?_
  refine Ol.gp rfl mvp ?_
  refine Ol.gp rfl nlc ?_
  refine Ol.gp rfl (fda fd_kit_bag_13) ?_
  refine Ol.gp rfl (ld (v := .slice none 0 0) one_L_L_api_Fact (Rd.blk (i := 0) (k := 13) rfl rfl)) ?_
  refine Ol.gs rfl (cl en_kit_flatFacts (fun M w' hh => kit_flatFacts_nil)) ?_
  refine Ol.p (pkTb rfl) ?_
  refine Ol.p mvb ?_
  refine Ol.gp rfl mvp ?_
  refine Ol.gp rfl nlc ?_
  refine Ol.gp rfl (fda fd_kit_bag_14) ?_
  refine Ol.gp rfl (ld (v := .slice none 0 0) one_L_L_api_Edge (Rd.blk (i := 0) (k := 14) rfl rfl)) ?_
  refine Ol.gs rfl (cl en_kit_flatEdges (fun M w' hh => kit_flatEdges_nil)) ?_
  refine Ol.p (pkTb rfl) ?_
  refine Ol.p mvb ?_
  refine Ol.gp rfl mvp ?_
  refine Ol.gp rfl nlc ?_
  refine Ol.gp rfl (fda fd_kit_bag_15) ?_
  refine Ol.gp rfl (ld (v := .slice none 0 0) one_L_L_api_Tile (Rd.blk (i := 0) (k := 15) rfl rfl)) ?_
  refine Ol.gs rfl (cl en_kit_flatTiles (fun M w' hh => kit_flatTiles_nil)) ?_
  refine Ol.p (pkTb rfl) ?_
  refine Ol.p mvb ?_
  refine Ol.gp rfl mvp ?_
  refine Ol.gp rfl nlc ?_
  refine Ol.gp rfl (fda fd_kit_bag_16) ?_
  refine Ol.gp rfl (ld (v := .slice none 0 0) one_L_L_api_Call (Rd.blk (i := 0) (k := 16) rfl rfl)) ?_
  refine Ol.gs rfl (cl en_kit_flatCalls (fun M w' hh => kit_flatCalls_nil)) ?_
  refine Ol.p (pkTb rfl) ?_
  refine Ol.p asb ?_
  refine Ol.nil ?_
  exact Cd.ret ⟨.bool true, ret1 rfl rfl, [], Keep.nil, rfl, rfl⟩
theorem kit_ApartInts_cm {w0 : World} {B N cL : Nat} {AL : Option Addr} {it : Nat → Li} {X0 : Nat → List Value} (hN : N < 50000) (hx0 : ∀ k, k < N → (X0 k).length = (it k).m) (hnm : ∀ k, k < N → (it k).n ≤ (it k).m) (hns : ∀ k, k < N → (it k).n < 2 ^ 39) :
    Cm Try.prog 28 #[.slice AL N cL] w0 B (row (.slice AL N cL) 23 1 N (hdL N it) :: rowsL N it X0) (Is (.bool true)) := by
  refine Cm.mk Try.func28 rfl rfl fun M => ?_
  obtain ⟨RS, hRS⟩ : ∃ RS, RS = rowsL N it X0 := ⟨_, rfl⟩
  rw [← hRS]
  refine Cd.seq ?_
  refine Cd.region ?_
  refine Ol.p asb ?_
  refine Ol.nil ?_
  refine Cd.nr 23 1 ?_
  refine Cd.seq ?_
  refine Cd.region ?_
  refine Ol.p (bds (cs := bagC (.slice none 0 0)) bs_kit_bag zr_kit_bag (hf := by kernel_rfl)) ?_
  refine Ol.x bxg ?_
  rintro _ _ ⟨g6, rfl, rfl⟩
  refine Ol.p asp ?_
  refine Ol.nil ?_
  refine Cd.seq ?_
  refine Cd.seq ?_
  refine Cd.region ?_
  refine Ol.p asi ?_
  refine Ol.nil ?_
  refine Cd.block ?_
  refine Cd.loop (fun m σ L => ∃ (k : Nat) (A : Option Addr) (c : Nat), m = N - k ∧ k ≤ N ∧ Has σ [(0, .slice AL N cL), (3, .pointer (some ⟨g6, 0, none⟩)), (4, .int .i64 k)] ∧ blk g6 (.cells (bagC (.slice A k c)) 120) :: row (.slice A k c) 23 1 k (hdL k it) :: row (.slice AL N cL) 23 1 N (hdL N it) :: RS = L) (n := N) ⟨0, none, 0, rfl, Nat.zero_le _, ⟨rfl, rfl, rfl, trivial⟩, rfl⟩ ?_
  rintro _ σ L ⟨k, A, c, rfl, hk, hs, rfl⟩
  refine Cd.has hs ?_
  clear hs
  refine Cd.seq ?_
  refine Cd.seq ?_
  refine Cd.region ?_
  refine Ol.p mvi ?_
  refine Ol.p mvs ?_
  refine Ol.p (lens sl_L_L_int) ?_
  refine Ol.p lsi ?_
  refine Ol.nil ?_
  refine Cd.cond rfl (fun h => ?_) (fun h => ?_)
  · have hlt : k < N := by
      have h : decide ((k : Int) < (N : Int)) = true := h
      have := of_decide_eq_true h
      omega
    have hd : (hdL N it)[k * 1]? = some (.slice (it k).A (it k).n (it k).c) := by rw [Nat.mul_one, hdL_get hlt]
    refine Cd.skip ?_
    refine Cd.seq ?_
    refine Cd.block ?_
    refine Cd.region ?_
    refine Ol.p mvp ?_
    refine Ol.p mvs ?_
    refine Ol.p mvi ?_
    refine Ol.p (ixn (ix := k) sl_L_L_int (Som.row (i := 2) rfl (by omega))) ?_
    refine Ol.p (ld (v := .slice (it k).A (it k).n (it k).c) one_L_int (Rd.row (i := 2) rfl hd)) ?_
    refine Ol.x (sp_callm (vs := [.pointer (some ⟨g6, 0, none⟩), .slice (it k).A (it k).n (it k).c]) (Lin := [blk g6 (.cells (bagC (.slice A k c)) 120), row (.slice A k c) 23 1 k (hdL k it)]) (L2 := row (.slice AL N cL) 23 1 N (hdL N it) :: RS) en_P_kit_bag_putInts (.refl _) (kit_putInts_cm (by omega))) ?_
    rintro _ _ ⟨_, rfl, rfl, A', c', rfl⟩
    refine Ol.nil ?_
    refine Cd.region ?_
    refine Ol.p mvi ?_
    refine Ol.p addi ?_
    refine Ol.p asi ?_
    refine Ol.nil ?_
    exact ⟨N - (k + 1), by omega, k + 1, A', c', rfl, by omega, ⟨rfl, rfl, rfl, trivial⟩, by rw [hdL_succ]; rfl⟩
  have hke : k = N := by
    have h : decide ((k : Int) < (N : Int)) = false := h
    have := of_decide_eq_false h
    omega
  obtain rfl : N = k := hke.symm
  refine Cd.exit (id := 0) ?_
  refine Cd.seq ?_
  refine Cd.region ?_
  refine Ol.p mvp ?_
  refine Ol.x (sp_callm (vs := [.pointer (some ⟨g6, 0, none⟩)]) (Lin := blk g6 (.cells (bagC (.slice A N c)) 120) :: row (.slice A N c) 23 1 N (hdL N it) :: rowsL N it X0) (L2 := [row (.slice AL N cL) 23 1 N (hdL N it)]) en_P_kit_bag_apart (by rw [hRS]; exact perm_count fun _ x => by simp only [List.set_cons_succ, List.set_cons_zero, List.count_append, List.count_cons, List.count_nil, List.cons_append, List.nil_append]; omega) (kit_apart_cm hN hx0 hnm hns)) ?_
  rintro _ _ ⟨_, rfl, rfl, rfl⟩
  refine Ol.p asb ?_
  refine Ol.nil ?_
  exact Cd.ret ⟨.bool true, ret1 rfl rfl, [], Keep.nil, rfl, rfl⟩
end
end Go.Proofs.Ytcojedoejpcolaa

/- The package ir: a function's variables, its size, walked. -/
namespace Go.Proofs.Ytcojedoejpcolaa
set_option linter.unusedVariables false
open Go Go.RowKit
set_option maxRecDepth 100000

/-- What is noted of an instruction, of a block, of a function. -/
def noteI (i : RIns) : List Int := readsL i ++ [defI i]
def noteB (b : RBlk) : List Int := b.ins.flatMap noteI ++ needsL b.term
def noteF (f : RFun) : List Int := f.params ++ f.blocks.flatMap noteB
def noS : VS := fun _ => false
theorem putsV_app (S : VS) (a b : List Int) : putsV S (a ++ b) true = putsV (putsV S a true) b true := by
  unfold putsV; rw [List.foldl_append]
theorem putsV_snoc (S : VS) (a : List Int) (n : Int) : putsV S (a ++ [n]) true = putV (putsV S a true) n.toNat true := by
  rw [putsV_app]; rfl
theorem putsV_iff {l : List Int} {S : VS} {v : Nat} : putsV S l true v = true ↔ S v = true ∨ ∃ n ∈ l, n.toNat = v := by
  induction l generalizing S with
  | nil => simp [putsV]
  | cons n l ih =>
    show putsV (putV S n.toNat true) l true v = true ↔ _
    rw [ih]
    have : putV S n.toNat true v = true ↔ S v = true ∨ n.toNat = v := by
      unfold putV
      by_cases e : v = n.toNat
      · rw [if_pos e]; simp [e]
      · rw [if_neg e]
        exact ⟨.inl, fun h => h.elim id fun h => absurd h.symm e⟩
    rw [this]
    simp only [List.mem_cons, exists_eq_or_imp]
    exact or_assoc
def varsTo (S : VS) (k : Nat) : List Nat := (List.range' 1 k).filter S
theorem varsTo_succ (S : VS) (k : Nat) : varsTo S (k + 1) = varsTo S k ++ (if S (k + 1) then [k + 1] else []) := by
  unfold varsTo
  rw [List.range'_concat, List.filter_append]
  congr 1
  rw [Nat.one_mul, Nat.add_comm 1 k]
  cases h : S (k + 1) <;> simp [h]
theorem varsTo_len (S : VS) (k : Nat) : (varsTo S k).length ≤ k := by
  unfold varsTo
  exact Nat.le_trans (List.length_filter_le _ _) (by simp)
def okF (f : RFun) : Bool := !longF f && wholeF f
def varsF (f : RFun) : List Nat := if okF f then varsTo (putsV noS (noteF f) true) 200 else []
def sizeF (f : RFun) : Nat := if okF f then (f.blocks.map fun b => b.ins.length + 1).sum else 0
theorem mem_varsF {f : RFun} {v : Nat} : v ∈ varsF f ↔ okF f = true ∧ (1 ≤ v ∧ v ≤ 200) ∧ ∃ n ∈ noteF f, n.toNat = v := by
  unfold varsF
  cases h : okF f with
  | false => simp
  | true =>
    rw [if_pos rfl]
    unfold varsTo
    rw [List.mem_filter, putsV_iff, List.mem_range'_1]
    simp only [noS, Bool.false_eq_true, false_or, true_and]
    exact ⟨fun ⟨h1, h2⟩ => ⟨⟨h1.1, by omega⟩, h2⟩, fun ⟨h1, h2⟩ => ⟨⟨h1.1, by omega⟩, h2⟩⟩
theorem ok_parts {f : RFun} (h : okF f = true) : longF f = false ∧ wholeF f = true := by
  unfold okF at h
  rw [Bool.and_eq_true] at h
  exact ⟨by simpa using h.1, h.2⟩
theorem whole_params {f : RFun} (h : wholeF f = true) : ∀ p ∈ f.params, 1 ≤ p ∧ p ≤ 200 := fun p hp => by
  rw [whole_split, Bool.and_eq_true, Bool.and_eq_true] at h
  have := List.all_eq_true.1 h.1.1 p hp
  unfold varB at this
  simpa using this
theorem noteI_range {i : RIns} {n : Int} (h : n ∈ noteI i) : 0 ≤ n ∧ n ≤ 200 := by
  unfold noteI at h
  rcases List.mem_append.1 h with h | h
  · have := readsL_mem h; omega
  · have e : n = defI i := by simpa using h
    rw [e]; exact defI_range i
theorem RdS.held {w0 : World} {B s n : Nat} {L : List Res} {A : Option Addr} {xs : List Value} {M : List Res} {w : World} (h : RdS w0 B L s A n xs) (hh : Hp w0 B (M ++ L) w) : Reads w w.heap.size s A n xs := h M w hh
section
/-- Numbers are noted. -/
theorem ir_Vars_1_ct {w0 : World} {B g c : Nat} {A : Option Addr} {l : List Int} {S : VS} {R : List Res} (hl : RdS w0 B R 1 A l.length (ints l)) (hlen : l.length < 2 ^ 60) (hr : ∀ n ∈ l, 0 ≤ n ∧ n ≤ 200) :
    Cm Try.prog 87 #[.slice A l.length c, .pointer (some ⟨g, 0, none⟩)] w0 B (blk g (.cells (encV S) 128) :: R) (fun v L => v = .tuple #[] ∧ L = blk g (.cells (encV (putsV S l true)) 128) :: R) := by
  refine Cm.mk Try.func87 rfl rfl fun M => ?_
  refine Cd.seq ?_
  refine Cd.region ?_
  refine Ol.p mvs ?_
  refine Ol.p (lens sl_L_int) ?_
  refine Ol.p mvi ?_
  refine Ol.nil ?_
  refine Cd.block ?_
  refine Cd.loop (fun m σ L => ∃ k, m = l.length - k ∧ k ≤ l.length ∧ Has σ [(1, .pointer (some ⟨g, 0, none⟩)), (5, .slice A l.length c), (6, .int .i64 l.length), (7, .int .i64 k)] ∧ blk g (.cells (encV (putsV S (l.take k) true)) 128) :: R = L) (n := l.length) ⟨0, rfl, Nat.zero_le _, ⟨rfl, rfl, rfl, rfl, trivial⟩, rfl⟩ ?_
  rintro _ σ L ⟨k, rfl, hk, hs, rfl⟩
  refine Cd.has hs ?_
  refine Cd.seq ?_
  refine Cd.region ?_
  refine Ol.p lsi ?_
  refine Ol.nil ?_
  refine Cd.seq ?_
  refine Cd.cond rfl (fun h => ?_) (fun h => ?_)
  · have hlt : k < l.length := by simpa using h
    obtain ⟨n, hn⟩ : ∃ n, l[k]? = some n := ⟨_, List.getElem?_eq_getElem hlt⟩
    have hnr := hr n (List.mem_of_getElem? hn)
    obtain ⟨m, rfl⟩ : ∃ m : Nat, n = (m : Int) := ⟨n.toNat, by omega⟩
    refine Cd.skip ?_
    refine Cd.seq ?_
    refine Cd.block ?_
    refine Cd.seq ?_
    refine Cd.region ?_
    refine Ol.p (ixn1 (ix := k) sl_L_int (Som.rds hl.more (by omega))) ?_
    refine Ol.p (ld one_int (Rd.rds hl.more (ints_at hn))) ?_
    refine Ol.p asi ?_
    refine Ol.nil ?_
    refine Cd.region ?_
    refine Ol.p mvi ?_
    refine Ol.p (ixl1 (ix := m) ar_ir_set) ?_
    refine Ol.s (sto (v := .bool true) (i := 0) (k := m) (.inr sz_bool) rfl rfl rfl (by rw [encV_size]; omega) rfl) ?_
    refine Ol.nil ?_
    refine Cd.region ?_
    refine Ol.p addi ?_
    refine Ol.p mvi ?_
    refine Ol.nil ?_
    refine ⟨l.length - (k + 1), by omega, k + 1, rfl, by omega, ⟨rfl, rfl, rfl, rfl, trivial⟩, ?_⟩
    rw [take_snoc_ hn, putsV_snoc, ← encV_set]
    rfl
  have hge : k = l.length := by
    have : ¬ (k : Int) < l.length := by simpa using h
    omega
  subst hge
  refine Cd.exit (id := 0) ⟨_, ret0 rfl, _, .all, rfl, by rw [List.take_of_length_le (Nat.le_refl _)]⟩
end
section
set_option maxHeartbeats 4000000 in
theorem ir_Vars_ct {w : World} {f : RFun} (hf : FunAt w w.heap.size f) (hfit : Fit f) : Ct Try.prog 36 #[f.val] w (NewL 3 1 (varsF f).length (intsN (varsF f))) := by
  have hbl := hfit.blen
  have hpl := hfit.plen
  refine Ct.mk Try.func36 rfl rfl ?_
  refine Cd.seq ?_
  refine Cd.region ?_
  refine Ol.x bxg ?_
  rintro _ _ ⟨g1, rfl, rfl⟩
  refine Ol.p ass ?_
  refine Ol.nil ?_
  refine Cd.seq ?_
  cases hok : okF f with
  | false =>
    have hv : varsF f = [] := by unfold varsF; rw [hok]; rfl
    rw [hv]
    refine Cd.mid (fun σ' L' => Has σ' [(16, .bool true)] ∧ [blk g1 (.cells f.cells.toArray 43)] = L') ?_ ?_
    · cases hl : longF f with
      | true =>
        refine Cd.region ?_
        refine Ol.p (ldw ag_api_Func (i := 0) rfl rfl) ?_
        refine Ol.s (cl en_ir_long (fun M w' hh => ir_long_ct (hf.now hh) hfit)) ?_
        refine Ol.p mvb ?_
        refine Ol.gn hl ?_
        refine Ol.gn hl ?_
        refine Ol.gn hl ?_
        refine Ol.p (pkTb hl) ?_
        refine Ol.nil ?_
        exact ⟨⟨rfl, trivial⟩, rfl⟩
      | false =>
        have hw : wholeF f = false := by unfold okF at hok; rw [hl] at hok; simpa using hok
        refine Cd.region ?_
        refine Ol.p (ldw ag_api_Func (i := 0) rfl rfl) ?_
        refine Ol.s (cl en_ir_long (fun M w' hh => ir_long_ct (hf.now hh) hfit)) ?_
        refine Ol.p mvb ?_
        refine Ol.gp hl (ldw ag_api_Func (i := 0) rfl rfl) ?_
        refine Ol.gs hl (cl en_ir_whole (fun M w' hh => ir_whole_ct (hf.now hh) hfit)) ?_
        refine Ol.gp hl noti ?_
        refine Ol.p (pkFb hl) ?_
        refine Ol.nil ?_
        exact ⟨⟨by show Value.bool _ = _; rw [hw]; rfl, trivial⟩, rfl⟩
    rintro σ' _ ⟨hs', rfl⟩
    refine Cd.has hs' ?_
    refine Cd.cond rfl (fun h => ?_) (fun h => by cases h)
    refine Cd.seq ?_
    refine Cd.region ?_
    refine Ol.p ass ?_
    refine Ol.nil ?_
    exact Cd.nr 3 1 (Cd.ret ⟨_, ret1 rfl rfl, _, .sub (.cons_cons _ (.cons _ .slnil)), none, 0, rfl, rfl⟩)
  | true =>
  obtain ⟨hl, hw⟩ := ok_parts hok
  obtain ⟨h0, h200, h8, h64⟩ := long_parts hl
  have hwb : (!wholeF f) = false := by rw [hw]; rfl
  have hprm : ∀ n ∈ f.params, 0 ≤ n ∧ n ≤ 200 := fun n hn => by have := whole_params hw n hn; omega
  have hv : varsF f = varsTo (putsV noS (noteF f) true) 200 := by unfold varsF; rw [hok]; rfl
  rw [hv]
  refine Cd.seq ?_
  refine Cd.region ?_
  refine Ol.p (ldw ag_api_Func (i := 0) rfl rfl) ?_
  refine Ol.s (cl en_ir_long (fun M w' hh => ir_long_ct (hf.now hh) hfit)) ?_
  refine Ol.p mvb ?_
  refine Ol.gp hl (ldw ag_api_Func (i := 0) rfl rfl) ?_
  refine Ol.gs hl (cl en_ir_whole (fun M w' hh => ir_whole_ct (hf.now hh) hfit)) ?_
  refine Ol.gp hl noti ?_
  refine Ol.p (pkFb hl) ?_
  refine Ol.nil ?_
  refine Cd.cond rfl (fun h => by rw [hwb] at h; cases h) (fun h => ?_)
  refine Cd.skip ?_
  refine Cd.seq ?_
  refine Cd.region ?_
  refine Ol.x (alc zr_ir_set) ?_
  rintro _ _ ⟨g3, rfl, rfl⟩
  refine Ol.nil ?_
  refine Cd.seq ?_
  refine Cd.region ?_
  refine Ol.p mkf ?_
  refine Ol.p asf ?_
  refine Ol.nil ?_
  have hz : (Array.replicate 201 (Value.bool false)) = encV noS := zeroV
  have hnote : ∀ {σ : Env} {L R L2 : List Res} {d ty pos af gd} {x y : Operand} {ts : Array TypeId} {A : Option Addr} {c : Nat} {l : List Int} {S : VS}, L.Perm ((blk g3 (.cells (encV S) 128) :: R) ++ L2) → RdS w w.heap.size R 1 A l.length (ints l) → l.length < 2 ^ 60 → (∀ n ∈ l, 0 ≤ n ∧ n ≤ 200) → ev σ x = .func (.func 87) #[] #[.pointer (some ⟨g3, 0, none⟩)] → [y].map (ev σ) = [.slice A l.length c] →
      Sp Try.prog w w.heap.size ⟨d, .call { callee := .value x, args := [y].toArray, argTypes := ts }, ty, pos, af, gd⟩ σ L (Adds (fun v T => v = .tuple #[] ∧ T = blk g3 (.cells (encV (putsV S l true)) 128) :: R) L2) := by
    intro σ L R L2 d ty pos af gd x y ts A c l S h0 h1 h2 h3 h4 h5
    exact sp_callvw (fst := #[]) (vs := [Value.slice A l.length c]) (cap := #[.pointer (some ⟨g3, 0, none⟩)]) en_ir_Vars_1 (ir_Vars_1_ct (c := c) h1 h2 h3) h0 h4 h5 (by simp)
  refine Cd.seq ?_
  refine Cd.region ?_
  refine Ol.p mvf ?_
  refine Ol.p (fdl fd_api_Func_0) ?_
  refine Ol.p (ld one_L_int (Rd.blk (i := 1) rfl rfl)) ?_
  refine Ol.x (hnote (S := noS) (l := f.params) (R := []) (L2 := [blk g1 (.cells f.cells.toArray 43)]) (c := f.pC) (by rw [← hz]; exact .refl _) (RdS.slc hf.params) (by omega) hprm rfl rfl) ?_
  rintro _ _ ⟨_, rfl, rfl, rfl⟩
  refine Ol.nil ?_
  refine Cd.mid (fun σ' L' => Has σ' [(2, .slice none 0 0), (3, .pointer (some ⟨g3, 0, none⟩))] ∧ [blk g3 (.cells (encV (putsV noS (noteF f) true)) 128), blk g1 (.cells f.cells.toArray 43)] = L') ?_ ?_
  · refine Cd.seq ?_
    refine Cd.region ?_
    refine Ol.p (fdl fd_api_Func_1) ?_
    refine Ol.p (ld one_L_api_Block (Rd.blk (i := 1) rfl rfl)) ?_
    refine Ol.p (lens sl_L_api_Block) ?_
    refine Ol.p mvi ?_
    refine Ol.nil ?_
    refine Cd.block ?_   -- 0
    refine Cd.loop (fun m σ L => ∃ k, m = f.blocks.length - k ∧ k ≤ f.blocks.length ∧ Has σ [(2, .slice none 0 0), (3, .pointer (some ⟨g3, 0, none⟩)), (4, .func (.func 87) #[] #[.pointer (some ⟨g3, 0, none⟩)]), (23, .slice f.bA f.blocks.length f.bC), (24, .int .i64 f.blocks.length), (25, .int .i64 k)] ∧
      [blk g3 (.cells (encV (putsV noS (f.params ++ (f.blocks.take k).flatMap noteB) true)) 128), blk g1 (.cells f.cells.toArray 43)] = L) (n := f.blocks.length) ⟨0, rfl, Nat.zero_le _, ⟨rfl, rfl, rfl, rfl, rfl, rfl, trivial⟩, by simp⟩ ?_
    rintro _ σ L ⟨k, rfl, hk, hs, rfl⟩
    refine Cd.has hs ?_
    clear hs
    refine Cd.seq ?_
    refine Cd.region ?_
    refine Ol.p lsi ?_
    refine Ol.nil ?_
    refine Cd.seq ?_
    refine Cd.cond rfl (fun h => ?_) (fun h => ?_)   -- $26
    · have hlt : k < f.blocks.length := by
        simp only [decide_eq_true_eq] at h; omega
      obtain ⟨x, hx⟩ : ∃ x, f.blocks[k]? = some x := ⟨_, List.getElem?_eq_getElem hlt⟩
      have hxm := List.mem_of_getElem? hx
      have hxl := h64 x hxm
      have hnl := needsL_len x.term
      refine Cd.skip ?_
      refine Cd.seq ?_
      refine Cd.block ?_   -- 1
      refine Cd.seq ?_
      refine Cd.region ?_
      refine Ol.p (ixn (ix := k) sl_L_api_Block (Som.slc hf.blocks (by omega))) ?_
      refine Ol.p (lds (es := x.cells) ag_api_Block hf.blocks x.len (fun j u hu => blk_cell hx hu)) ?_
      refine Ol.x (alc zr_api_Block) ?_
      rintro _ _ ⟨g6, rfl, rfl⟩
      refine Ol.s (stw (vs := x.cells.toArray) sz_api_Block rfl x.one (i := 0) rfl rfl) ?_
      refine Ol.nil ?_
      obtain ⟨S0, hS0⟩ : ∃ S0, S0 = putsV noS (f.params ++ (f.blocks.take k).flatMap noteB) true := ⟨_, rfl⟩
      rw [← hS0]
      refine Cd.mid (fun σ' L' => Has σ' [(2, .slice none 0 0), (3, .pointer (some ⟨g3, 0, none⟩)), (4, .func (.func 87) #[] #[.pointer (some ⟨g3, 0, none⟩)]), (6, .pointer (some ⟨g6, 0, none⟩)), (23, .slice f.bA f.blocks.length f.bC), (24, .int .i64 f.blocks.length), (25, .int .i64 k)] ∧
        [blk g6 (.cells x.cells.toArray 50), blk g3 (.cells (encV (putsV S0 (x.ins.flatMap noteI) true)) 128), blk g1 (.cells f.cells.toArray 43)] = L') ?_ ?_
      · refine Cd.seq ?_
        refine Cd.region ?_
        refine Ol.p (fdl fd_api_Block_0) ?_
        refine Ol.p (ld one_L_api_Ins (Rd.blk (i := 0) rfl rfl)) ?_
        refine Ol.p (lens sl_L_api_Ins) ?_
        refine Ol.p mvi ?_
        refine Ol.nil ?_
        refine Cd.block ?_   -- 2
        refine Cd.loop (fun m σ L => ∃ j, m = x.ins.length - j ∧ j ≤ x.ins.length ∧ Has σ [(2, .slice none 0 0), (3, .pointer (some ⟨g3, 0, none⟩)), (4, .func (.func 87) #[] #[.pointer (some ⟨g3, 0, none⟩)]), (6, .pointer (some ⟨g6, 0, none⟩)), (23, .slice f.bA f.blocks.length f.bC), (24, .int .i64 f.blocks.length), (25, .int .i64 k), (30, .slice x.iA x.ins.length x.iC), (31, .int .i64 x.ins.length), (32, .int .i64 j)] ∧
          [blk g6 (.cells x.cells.toArray 50), blk g3 (.cells (encV (putsV S0 ((x.ins.take j).flatMap noteI) true)) 128), blk g1 (.cells f.cells.toArray 43)] = L) (n := x.ins.length) ⟨0, rfl, Nat.zero_le _, ⟨rfl, rfl, rfl, rfl, rfl, rfl, rfl, rfl, rfl, rfl, trivial⟩, rfl⟩ ?_
        rintro _ σ L ⟨j, rfl, hj, hs, rfl⟩
        refine Cd.has hs ?_
        clear hs
        refine Cd.seq ?_
        refine Cd.region ?_
        refine Ol.p lsi ?_
        refine Ol.nil ?_
        refine Cd.seq ?_
        refine Cd.cond rfl (fun h => ?_) (fun h => ?_)   -- $33
        · have hjl : j < x.ins.length := by
            simp only [decide_eq_true_eq] at h; omega
          obtain ⟨i, hi⟩ : ∃ i, x.ins[j]? = some i := ⟨_, List.getElem?_eq_getElem hjl⟩
          have him := List.mem_of_getElem? hi
          have hrl := readsL_len i
          have hal := hfit.alen x hxm i him
          have hia : ∀ {M : List Res} {w' : World}, Hp w w.heap.size M w' → InsAt w' i := fun hh => ⟨(hf.args x hxm i him).now hh, hal, hfit.insr x hxm i him i.callee (by simp)⟩
          have hnl2 : (noteI i).length = (readsL i).length + 1 := by simp [noteI]
          have hni : ints (readsL i) ++ [Value.int .i64 (defI i)] = ints (noteI i) := by simp [ints, noteI]
          refine Cd.skip ?_
          refine Cd.seq ?_
          refine Cd.block ?_   -- 3
          refine Cd.seq ?_
          refine Cd.region ?_
          refine Ol.p (ixn (ix := j) sl_L_api_Ins (Som.slc (hf.ins x hxm) (by omega))) ?_
          refine Ol.p (lds (es := i.cells) ag_api_Ins (hf.ins x hxm) i.len (fun j u hu => ins_cell hi hu)) ?_
          refine Ol.x (alc zr_api_Ins) ?_
          rintro _ _ ⟨g8, rfl, rfl⟩
          refine Ol.s (stw (vs := i.cells.toArray) sz_api_Ins rfl i.one (i := 0) rfl rfl) ?_
          refine Ol.nil ?_
          refine Cd.drawT (L0 := _) mixed 7 (fun opNo => match opNo with | 2 => some (NewL 3 1 (readsL i).length (ints (readsL i))) | 4 => some (Is (.int .i64 (defI i))) | 5 => some (NewSv 3 1 1 1 [.int .i64 (defI i)]) | 6 => some (NewL 3 1 (noteI i).length (ints (noteI i))) | _ => none) (fun opNo => match opNo with | 6 => [2, 5] | _ => []) (fun opNo => match opNo with | 6 => some 2 | _ => none) [] (fun _ => []) (by kernel_rfl) (.refl _) (by intro c hc; cases hc) (by intro q V h; split at h <;> cases h; exact ⟨_, _, none, 0, rfl, rfl⟩; exact ⟨_, [], rfl, rfl⟩; exact ⟨_, _, 0, rfl, rfl⟩; exact ⟨_, _, none, 0, rfl, rfl⟩) (fun u hu hu0 => ?_)
          refine WkT.p mvf ?_
          refine WkT.p (ldw ag_api_Ins (i := 0) rfl rfl) ?_
          refine WkT.xn (V := NewL 3 1 (readsL i).length (ints (readsL i))) (l := []) (l2 := []) hu rfl rfl rfl (by rw [needs_none]; exact (sp_call en_ir_Reads (fun M w' hh => ir_Reads_ct (hia hh)))) ?_
          rintro _ _ hu2 ⟨A38, c38, rfl, rfl⟩
          refine WkT.p (ldw ag_api_Ins (i := 0) rfl rfl) ?_
          refine WkT.xn (V := Is (.int .i64 (defI i))) (l := []) (l2 := []) hu rfl rfl rfl (by rw [needs_none]; exact (sp_call en_ir_Defines (fun M w' hh => ir_Defines_ct (hia hh)))) ?_
          rintro _ _ hu4 ⟨rfl, rfl⟩
          refine WkT.xn (V := NewSv 3 1 1 1 [.int .i64 (defI i)]) (l := []) (l2 := []) hu rfl rfl rfl (by rw [needs_none]; exact (NewS.adds (bsv [.int .i64 (defI i)] sl_L_int zr_int (by simp [Value.cells])))) ?_
          rintro _ _ hu5 ⟨g41, rfl, rfl⟩
          refine WkT.xn (V := NewL 3 1 (noteI i).length (ints (noteI i))) (l := [2, 5]) (l2 := [5]) hu rfl rfl rfl (by rw [needs_cons hu2, needs_cons hu5, needs_none]; exact (by rw [hnl2, ← hni]; exact Grow.adds (apn (i := 0) (m := 1) sl_L_int zr_int rfl (by decide) rfl (Src.row (i := 1) rfl rfl) (by intro u hu; simp at hu; subst hu; rfl) (by unfold maxLen; omega) (by omega)))) ?_
          rintro _ _ hu6 ⟨A42, c42, rfl, rfl⟩
          refine WkT.nil ?_
          change Ol _ _ _ _ _ (needs u [6, 5, 4] _)
          rw [needs_cons hu6, needs_cons hu5, needs_cons hu4, needs_none]
          refine Ol.x (hnote (S := putsV S0 ((x.ins.take j).flatMap noteI) true) (l := noteI i) (R := [row (.slice A42 (noteI i).length c42) 3 1 (noteI i).length (ints (noteI i))]) (L2 := [row (.slice (some ⟨g41, 0, none⟩) 1 1) 3 1 1 [.int .i64 (defI i)], blk g8 (.cells i.cells.toArray 25), blk g6 (.cells x.cells.toArray 50), blk g1 (.cells f.cells.toArray 43)]) (perm_count fun _ x => by simp only [List.count_append, List.count_cons, List.count_nil, List.cons_append, List.nil_append]; omega) (RdS.row (i := 0) rfl) (by omega) (fun n hn => noteI_range hn) rfl rfl) ?_
          rintro _ _ ⟨_, rfl, rfl, rfl⟩
          refine Ol.keep (keep_count (L' := [blk g6 (.cells x.cells.toArray 50), blk g3 (.cells (encV (putsV (putsV S0 ((x.ins.take j).flatMap noteI) true) (noteI i) true)) 128), blk g1 (.cells f.cells.toArray 43)]) [row (.slice A42 (noteI i).length c42) 3 1 (noteI i).length (ints (noteI i)), row (.slice (some ⟨g41, 0, none⟩) 1 1) 3 1 1 [.int .i64 (defI i)], blk g8 (.cells i.cells.toArray 25)] fun _ x => by simp only [List.count_append, List.count_cons, List.count_nil, List.cons_append, List.nil_append]; omega) ?_
          refine Ol.nil ?_
          refine Cd.region ?_
          refine Ol.p addi ?_
          refine Ol.p mvi ?_
          refine Ol.nil ?_
          refine ⟨x.ins.length - (j + 1), by omega, j + 1, rfl, by omega, ⟨rfl, rfl, rfl, rfl, rfl, rfl, rfl, rfl, rfl, rfl, trivial⟩, ?_⟩
          rw [take_snoc_ hi, List.flatMap_append, putsV_app]
          simp
        have hje : j = x.ins.length := by
          simp only [decide_eq_false_iff_not] at h; omega
        refine Cd.exit (id := 2) ⟨⟨rfl, rfl, rfl, rfl, rfl, rfl, rfl, trivial⟩, ?_⟩
        rw [hje, List.take_of_length_le (Nat.le_refl _)]
      rintro σ' _ ⟨hs', rfl⟩
      refine Cd.has hs' ?_
      clear hs'
      refine Cd.region ?_
      refine Ol.p mvf ?_
      refine Ol.p (fdl fd_api_Block_1) ?_
      refine Ol.p (ldp (k := 0 + 1) (vs := x.term.cells.toArray) ag_api_Term (i := 0) rfl rfl (fun j u hu => by rw [Nat.zero_add, Nat.add_comm]; simpa [RBlk.cells] using hu)) ?_
      refine Ol.x (sp_call en_ir_Needs (fun M w' hh => ir_Needs_ct (t := x.term))) ?_
      rintro _ _ ⟨_, rfl, A48, c48, rfl, rfl⟩
      refine Ol.x (hnote (S := putsV S0 (x.ins.flatMap noteI) true) (l := needsL x.term) (R := [row (.slice A48 (needsL x.term).length c48) 3 1 (needsL x.term).length (ints (needsL x.term))]) (L2 := [blk g6 (.cells x.cells.toArray 50), blk g1 (.cells f.cells.toArray 43)]) (perm_count fun _ x => by simp only [List.count_append, List.count_cons, List.count_nil, List.cons_append, List.nil_append]; omega) (RdS.row (i := 0) rfl) (by omega) (fun n hn => by have := needsL_mem hn; omega) rfl rfl) ?_
      rintro _ _ ⟨_, rfl, rfl, rfl⟩
      refine Ol.keep (.sub (.cons_cons _ (.cons _ (.cons _ (List.Sublist.refl _))))) ?_
      refine Ol.nil ?_
      refine Cd.region ?_
      refine Ol.p addi ?_
      refine Ol.p mvi ?_
      refine Ol.nil ?_
      refine ⟨f.blocks.length - (k + 1), by omega, k + 1, rfl, by omega, ⟨rfl, rfl, rfl, rfl, rfl, rfl, trivial⟩, ?_⟩
      rw [take_snoc_ hx, List.flatMap_append, ← List.append_assoc, putsV_app, ← hS0, ← putsV_app]
      simp [noteB]
    have hke : k = f.blocks.length := by
      simp only [decide_eq_false_iff_not] at h; omega
    refine Cd.exit (id := 0) ⟨⟨rfl, rfl, trivial⟩, ?_⟩
    rw [hke, List.take_of_length_le (Nat.le_refl _)]
    rfl
  rintro σ' _ ⟨hs', rfl⟩
  refine Cd.has hs' ?_
  clear hs'
  obtain ⟨S, hS⟩ : ∃ S, S = putsV noS (noteF f) true := ⟨_, rfl⟩
  rw [← hS]
  refine Cd.nr 3 1 ?_
  refine Cd.mid (fun σ' L' => ∃ A c, Has σ' [(2, .slice A (varsTo S 200).length c)] ∧ row (.slice A (varsTo S 200).length c) 3 1 (varsTo S 200).length (intsN (varsTo S 200)) :: [blk g3 (.cells (encV S) 128), blk g1 (.cells f.cells.toArray 43)] = L') ?_ ?_
  · refine Cd.seq ?_
    refine Cd.region ?_
    refine Ol.p asi ?_
    refine Ol.nil ?_
    refine Cd.block ?_   -- 4
    refine Cd.loop (fun m σ L => ∃ k A c, m = 200 - k ∧ k ≤ 200 ∧ Has σ [(2, .slice A (varsTo S k).length c), (3, .pointer (some ⟨g3, 0, none⟩)), (9, .int .i64 ((k : Int) + 1))] ∧ row (.slice A (varsTo S k).length c) 3 1 (varsTo S k).length (intsN (varsTo S k)) :: [blk g3 (.cells (encV S) 128), blk g1 (.cells f.cells.toArray 43)] = L) (n := 200) ⟨0, none, 0, rfl, Nat.zero_le _, ⟨rfl, rfl, rfl, trivial⟩, rfl⟩ ?_
    rintro _ σ L ⟨k, A, c, rfl, hk, hs, rfl⟩
    have hvl := varsTo_len S k
    have ek : (k : Int) + 1 = ((k + 1 : Nat) : Int) := by omega
    rw [ek] at hs
    refine Cd.has hs ?_
    clear hs
    refine Cd.seq ?_
    refine Cd.seq ?_
    refine Cd.region ?_
    refine Ol.p mvi ?_
    refine Ol.p lsi ?_
    refine Ol.nil ?_
    refine Cd.cond rfl (fun h => ?_) (fun h => ?_)   -- $52
    · have hlt : k + 1 < 201 := by
        simp only [decide_eq_true_eq] at h; omega
      refine Cd.skip ?_
      refine Cd.seq ?_
      refine Cd.block ?_   -- 5
      refine Cd.seq ?_
      refine Cd.region ?_
      refine Ol.p mvi ?_
      refine Ol.p (ixl1 (ix := k + 1) ar_ir_set) ?_
      refine Ol.p (ld one_bool (Rd.blk (i := 1) rfl (encV_get (i := k + 1) (by omega)))) ?_
      refine Ol.nil ?_
      have hsucc := varsTo_succ S k
      refine Cd.cond rfl (fun h2 => ?_) (fun h2 => ?_)   -- $57
      · skip
        refine Cd.region ?_
        refine Ol.p mvs ?_
        refine Ol.p mvi ?_
        refine Ol.x (bsv [.int .i64 ((k + 1 : Nat) : Int)] sl_L_int zr_int (by simp [Value.cells])) ?_
        rintro _ _ ⟨g60, rfl, rfl⟩
        refine Ol.x (apn (i := 1) (m := 1) sl_L_int zr_int rfl (by decide) rfl (Src.row (i := 0) rfl rfl) (by intro u hu; simp at hu; subst hu; rfl) (by unfold maxLen; omega) (by omega)) ?_
        rintro _ _ ⟨A', c', rfl, rfl⟩
        refine Ol.p ass ?_
        refine Ol.keep (.sub (.cons _ (List.Sublist.refl _))) ?_
        refine Ol.nil ?_
        rw [if_pos h2] at hsucc
        have e1 : (varsTo S k).length + 1 = (varsTo S (k + 1)).length := by rw [hsucc]; simp
        have e2 : intsN (varsTo S k) ++ [Value.int .i64 ((k + 1 : Nat) : Int)] = intsN (varsTo S (k + 1)) := by rw [hsucc]; simp [intsN]
        rw [e1, e2]
        refine Cd.region ?_
        refine Ol.p mvi ?_
        refine Ol.p addi ?_
        refine Ol.p asi ?_
        refine Ol.nil ?_
        exact ⟨200 - (k + 1), by omega, k + 1, A', c', rfl, by omega, ⟨rfl, rfl, rfl, trivial⟩, rfl⟩
      rw [if_neg (by rw [h2]; simp), List.append_nil] at hsucc
      refine Cd.skip ?_
      rw [← hsucc]
      refine Cd.region ?_
      refine Ol.p mvi ?_
      refine Ol.p addi ?_
      refine Ol.p asi ?_
      refine Ol.nil ?_
      exact ⟨200 - (k + 1), by omega, k + 1, A, c, rfl, by omega, ⟨rfl, rfl, rfl, trivial⟩, rfl⟩
    have hke : k = 200 := by
      simp only [decide_eq_false_iff_not] at h; omega
    subst hke
    exact Cd.exit (id := 4) ⟨A, c, ⟨rfl, trivial⟩, rfl⟩
  rintro σ' _ ⟨A, c, hs', rfl⟩
  refine Cd.has hs' ?_
  refine Cd.seq ?_
  refine Cd.region ?_
  refine Ol.p mvs ?_
  refine Ol.p ass ?_
  refine Ol.nil ?_
  exact Cd.ret ⟨_, ret1 rfl rfl, _, .sub (.cons_cons _ (.cons _ (.cons _ .slnil))), A, c, rfl, rfl⟩
end
section
theorem sizeF_ok {f : RFun} (h : okF f = true) : sizeF f = (f.blocks.map fun b => b.ins.length + 1).sum := by unfold sizeF; rw [h]; rfl
def szTo (f : RFun) (k : Nat) : Nat := ((f.blocks.take k).map fun b => b.ins.length + 1).sum
theorem szTo_succ {f : RFun} {k : Nat} {x : RBlk} (h : f.blocks[k]? = some x) : szTo f (k + 1) = szTo f k + (x.ins.length + 1) := by
  unfold szTo
  rw [take_snoc_ h]
  simp
theorem szTo_le {f : RFun} (h64 : ∀ b ∈ f.blocks, b.ins.length ≤ 64) : ∀ k, szTo f k ≤ k * 65
  | 0 => by simp [szTo]
  | k + 1 => by
    cases hx : f.blocks[k]? with
    | none =>
      have h1 := szTo_le h64 k
      have hl : f.blocks.length ≤ k := by simpa using hx
      have : szTo f (k + 1) = szTo f k := by unfold szTo; rw [List.take_of_length_le hl, List.take_of_length_le (by omega)]
      omega
    | some x =>
      have h1 := szTo_le h64 k
      have := h64 x (List.mem_of_getElem? hx)
      rw [szTo_succ hx]; omega
set_option maxHeartbeats 2000000 in
theorem ir_Size_ct {w : World} {f : RFun} (hf : FunAt w w.heap.size f) (hfit : Fit f) : Ct Try.prog 38 #[f.val] w (Is (.int .i64 (sizeF f : Nat))) := by
  have hbl := hfit.blen
  refine Ct.mk Try.func38 rfl rfl ?_
  refine Cd.seq ?_
  refine Cd.region ?_
  refine Ol.x bxg ?_
  rintro _ _ ⟨g1, rfl, rfl⟩
  refine Ol.p asi ?_
  refine Ol.nil ?_
  refine Cd.seq ?_
  cases hok : okF f with
  | false =>
    have hv : sizeF f = 0 := by unfold sizeF; rw [hok]; rfl
    rw [hv]
    refine Cd.mid (fun σ' L' => Has σ' [(11, .bool true)] ∧ [blk g1 (.cells f.cells.toArray 43)] = L') ?_ ?_
    · cases hl : longF f with
      | true =>
        refine Cd.region ?_
        refine Ol.p (ldw ag_api_Func (i := 0) rfl rfl) ?_
        refine Ol.s (cl en_ir_long (fun M w' hh => ir_long_ct (hf.now hh) hfit)) ?_
        refine Ol.p mvb ?_
        refine Ol.gn hl ?_
        refine Ol.gn hl ?_
        refine Ol.gn hl ?_
        refine Ol.p (pkTb hl) ?_
        refine Ol.nil ?_
        exact ⟨⟨rfl, trivial⟩, rfl⟩
      | false =>
        have hw : wholeF f = false := by unfold okF at hok; rw [hl] at hok; simpa using hok
        refine Cd.region ?_
        refine Ol.p (ldw ag_api_Func (i := 0) rfl rfl) ?_
        refine Ol.s (cl en_ir_long (fun M w' hh => ir_long_ct (hf.now hh) hfit)) ?_
        refine Ol.p mvb ?_
        refine Ol.gp hl (ldw ag_api_Func (i := 0) rfl rfl) ?_
        refine Ol.gs hl (cl en_ir_whole (fun M w' hh => ir_whole_ct (hf.now hh) hfit)) ?_
        refine Ol.gp hl noti ?_
        refine Ol.p (pkFb hl) ?_
        refine Ol.nil ?_
        exact ⟨⟨by show Value.bool _ = _; rw [hw]; rfl, trivial⟩, rfl⟩
    rintro σ' _ ⟨hs', rfl⟩
    refine Cd.has hs' ?_
    refine Cd.cond rfl (fun h => ?_) (fun h => by cases h)
    refine Cd.seq ?_
    refine Cd.region ?_
    refine Ol.p asi ?_
    refine Ol.nil ?_
    exact Cd.ret ⟨.int .i64 _, ret1 rfl rfl, [], .nil, rfl, rfl⟩
  | true =>
  obtain ⟨hl, hw⟩ := ok_parts hok
  obtain ⟨h0, h200, h8, h64⟩ := long_parts hl
  have hwb : (!wholeF f) = false := by rw [hw]; rfl
  refine Cd.seq ?_
  refine Cd.region ?_
  refine Ol.p (ldw ag_api_Func (i := 0) rfl rfl) ?_
  refine Ol.s (cl en_ir_long (fun M w' hh => ir_long_ct (hf.now hh) hfit)) ?_
  refine Ol.p mvb ?_
  refine Ol.gp hl (ldw ag_api_Func (i := 0) rfl rfl) ?_
  refine Ol.gs hl (cl en_ir_whole (fun M w' hh => ir_whole_ct (hf.now hh) hfit)) ?_
  refine Ol.gp hl noti ?_
  refine Ol.p (pkFb hl) ?_
  refine Ol.nil ?_
  refine Cd.cond rfl (fun h => by rw [hwb] at h; cases h) (fun h => ?_)
  refine Cd.skip ?_
  refine Cd.seq ?_
  refine Cd.seq ?_
  refine Cd.region ?_
  refine Ol.p (fdl fd_api_Func_1) ?_
  refine Ol.p (ld one_L_api_Block (Rd.blk (i := 0) rfl rfl)) ?_
  refine Ol.p (lens sl_L_api_Block) ?_
  refine Ol.p mvi ?_
  refine Ol.nil ?_
  refine Cd.block ?_
  refine Cd.loop (fun m σ L => ∃ k, m = f.blocks.length - k ∧ k ≤ f.blocks.length ∧ Has σ [(2, .int .i64 (szTo f k : Nat)), (13, .slice f.bA f.blocks.length f.bC), (14, .int .i64 f.blocks.length), (15, .int .i64 k)] ∧ [blk g1 (.cells f.cells.toArray 43)] = L) (n := f.blocks.length) ⟨0, rfl, Nat.zero_le _, ⟨rfl, rfl, rfl, rfl, trivial⟩, rfl⟩ ?_
  rintro _ σ L ⟨k, rfl, hk, hs, rfl⟩
  refine Cd.has hs ?_
  clear hs
  refine Cd.seq ?_
  refine Cd.region ?_
  refine Ol.p lsi ?_
  refine Ol.nil ?_
  refine Cd.seq ?_
  refine Cd.cond rfl (fun h => ?_) (fun h => ?_)
  · have hlt : k < f.blocks.length := by
      simp only [decide_eq_true_eq] at h; omega
    obtain ⟨x, hx⟩ : ∃ x, f.blocks[k]? = some x := ⟨_, List.getElem?_eq_getElem hlt⟩
    have hxm := List.mem_of_getElem? hx
    have hxl := h64 x hxm
    have hle := szTo_le h64 k
    have hsu := szTo_succ hx
    refine Cd.skip ?_
    refine Cd.seq ?_
    refine Cd.block ?_
    refine Cd.seq ?_
    refine Cd.region ?_
    refine Ol.p (ixn (ix := k) sl_L_api_Block (Som.slc hf.blocks (by omega))) ?_
    refine Ol.p (lds (es := x.cells) ag_api_Block hf.blocks x.len (fun j u hu => blk_cell hx hu)) ?_
    refine Ol.x (alc zr_api_Block) ?_
    rintro _ _ ⟨g4, rfl, rfl⟩
    refine Ol.s (stw (vs := x.cells.toArray) sz_api_Block rfl x.one (i := 0) rfl rfl) ?_
    refine Ol.nil ?_
    refine Cd.region ?_
    refine Ol.p mvi ?_
    refine Ol.p (fdl fd_api_Block_0) ?_
    refine Ol.p (ld one_L_api_Ins (Rd.blk (i := 0) rfl rfl)) ?_
    refine Ol.p (lens sl_L_api_Ins) ?_
    refine Ol.p addi ?_
    refine Ol.p addi ?_
    refine Ol.p asi ?_
    refine Ol.keep (.sub (.cons _ (List.Sublist.refl _))) ?_
    refine Ol.nil ?_
    refine Cd.region ?_
    refine Ol.p addi ?_
    refine Ol.p mvi ?_
    refine Ol.nil ?_
    exact ⟨f.blocks.length - (k + 1), by omega, k + 1, rfl, by omega, ⟨congrArg (Value.int .i64) (by rw [hsu]; omega), rfl, rfl, rfl, trivial⟩, rfl⟩
  have hke : k = f.blocks.length := by
    simp only [decide_eq_false_iff_not] at h; omega
  refine Cd.exit (id := 0) ?_
  refine Cd.seq ?_
  refine Cd.region ?_
  refine Ol.p mvi ?_
  refine Ol.p asi ?_
  refine Ol.nil ?_
  refine Cd.ret ⟨.int .i64 _, ret1 rfl rfl, [], .nil, ?_, rfl⟩
  rw [sizeF_ok hok, hke]
  unfold szTo
  rw [List.take_of_length_le (Nat.le_refl _)]
end
end Go.Proofs.Ytcojedoejpcolaa

/- How great a function is: walked. -/
namespace Go.Proofs.Ytcojedoejpcolaa
set_option linter.unusedVariables false
open Go Go.RowKit
set_option maxRecDepth 100000

def argSum (l : List RIns) : Nat := (l.map fun i => i.args.length).sum
def bsz (b : RBlk) : Nat := 1 + b.ins.length + argSum b.ins
def blocksSz (l : List RBlk) : Nat := (l.map bsz).sum
def RFun.sz (f : RFun) : Nat := f.params.length + blocksSz f.blocks
theorem argSum_snoc {l : List RIns} {k : Nat} {i : RIns} (h : l[k]? = some i) : argSum (l.take (k + 1)) = argSum (l.take k) + i.args.length := by
  unfold argSum
  rw [take_snoc_ h, List.map_append, List.sum_append]; simp
theorem blocksSz_snoc {l : List RBlk} {k : Nat} {b : RBlk} (h : l[k]? = some b) : blocksSz (l.take (k + 1)) = blocksSz (l.take k) + bsz b := by
  unfold blocksSz
  rw [take_snoc_ h, List.map_append, List.sum_append]; simp
theorem blocksSz_mem {l : List RBlk} {b : RBlk} (h : b ∈ l) : bsz b ≤ blocksSz l := by
  unfold blocksSz
  induction l with
  | nil => cases h
  | cons c l ih =>
    simp only [List.map_cons, List.sum_cons]
    rcases List.mem_cons.1 h with rfl | h
    · omega
    · have := ih h; omega
theorem blocksSz_len (l : List RBlk) : l.length ≤ blocksSz l := by
  unfold blocksSz
  induction l with
  | nil => simp
  | cons b l ih => simp [bsz]; omega
/-- What is counted: all, or more than the bound. -/
def Counted (n most total : Nat) : Prop := (n ≤ most → n = total) ∧ n < 2 ^ 55
theorem counted_ex {most : Nat} (hm : most < 2 ^ 40) (t : Nat) : ∃ n, Counted n most t := by
  rcases Nat.lt_or_ge most t with h | h
  · exact ⟨most + 1, fun h' => by omega, by omega⟩
  · exact ⟨t, fun _ => rfl, by omega⟩
section
set_option maxHeartbeats 1000000 in
theorem kit_BlocksOf_ct {w : World} {f : RFun} {most : Nat} (hf : FunAt w w.heap.size f) (hfit : Fit f) (hm : most < 2 ^ 40) : Ct Try.prog 77 #[.slice f.bA f.blocks.length f.bC, .int .i64 most] w (fun v R => ∃ n : Nat, v = .int .i64 n ∧ Counted n most (blocksSz f.blocks) ∧ R = []) := by
  have hbl := hfit.blen
  refine Ct.mk Try.func77 rfl rfl ?_
  refine Cd.seq ?_
  refine Cd.region ?_
  refine Ol.p asi ?_
  refine Ol.nil ?_
  refine Cd.seq ?_
  refine Cd.region ?_
  refine Ol.p asi ?_
  refine Ol.nil ?_
  refine Cd.seq ?_
  refine Cd.seq ?_
  refine Cd.region ?_
  refine Ol.p asi ?_
  refine Ol.nil ?_
  refine Cd.block ?_
  refine Cd.loop (fun m σ L => ∃ k n : Nat, m = f.blocks.length - k ∧ k ≤ f.blocks.length ∧ Has σ [(0, .slice f.bA f.blocks.length f.bC), (1, .int .i64 most), (5, .int .i64 n), (6, .int .i64 k)] ∧ L = [] ∧ Counted n most (blocksSz (f.blocks.take k))) (n := f.blocks.length) ⟨0, 0, rfl, Nat.zero_le _, ⟨rfl, rfl, rfl, rfl, trivial⟩, rfl, fun _ => rfl, by decide⟩ ?_
  rintro _ σ L ⟨k, n, rfl, hk, hs, rfl, hn⟩
  obtain ⟨hn1, hn2⟩ := hn
  refine Cd.has hs ?_
  refine Cd.seq ?_
  refine Cd.seq ?_
  cases h4 : decide ((k : Int) < (f.blocks.length : Int)) with
  | true =>
    have hlt : k < f.blocks.length := by simpa using h4
    obtain ⟨b, hb⟩ : ∃ b, f.blocks[k]? = some b := ⟨_, List.getElem?_eq_getElem hlt⟩
    have hbm : b ∈ f.blocks := List.mem_of_getElem? hb
    have hil := hfit.ilen b hbm
    have hins := hf.ins b hbm
    have hsl : Som w w.heap.size ([] : List Res) f.bA := Som.slc hf.blocks (by omega)
    have hc0 : (f.blocks.flatMap RBlk.cells)[k * 5 + 0]? = some (.slice b.iA b.ins.length b.iC) := hf.cell hb (by decide)
    refine Cd.region ?_
    refine Ol.p mvi ?_
    refine Ol.p mvs ?_
    refine Ol.p (lens sl_L_api_Block) ?_
    refine Ol.p lsi ?_
    refine Ol.p mvb ?_
    refine Ol.gp h4 mvi ?_
    refine Ol.gp h4 mvi ?_
    refine Ol.gp h4 lei ?_
    refine Ol.p (pkTb h4) ?_
    refine Ol.nil ?_
    refine Cd.cond rfl (fun h => ?_) (fun h => ?_)
    · have hle : n ≤ most := by simpa using h
      have hne := hn1 hle
      refine Cd.skip ?_
      refine Cd.mid (fun σ' L' => ∃ n' : Nat, Has σ' [(0, .slice f.bA f.blocks.length f.bC), (1, .int .i64 most), (5, .int .i64 n'), (6, .int .i64 k)] ∧ L' = [] ∧ Counted n' most (blocksSz (f.blocks.take (k + 1)))) ?_ ?_
      · refine Cd.block ?_
        refine Cd.seq ?_
        refine Cd.region ?_
        refine Ol.p mvi ?_
        refine Ol.p addi ?_
        refine Ol.p mvs ?_
        refine Ol.p mvi ?_
        refine Ol.p (ixn sl_L_api_Block hsl) ?_
        refine Ol.p (fdp fd_api_Block_0) ?_
        refine Ol.p (ld one_L_api_Ins (Rd.slc hf.blocks hc0)) ?_
        refine Ol.p (lens sl_L_api_Ins) ?_
        refine Ol.p addi ?_
        refine Ol.p asi ?_
        refine Ol.nil ?_
        refine Cd.seq ?_
        refine Cd.region ?_
        refine Ol.p asi ?_
        refine Ol.nil ?_
        refine Cd.block ?_
        refine Cd.loop (fun m σ L => ∃ j n : Nat, m = b.ins.length - j ∧ j ≤ b.ins.length ∧ Has σ [(0, .slice f.bA f.blocks.length f.bC), (1, .int .i64 most), (5, .int .i64 n), (6, .int .i64 k), (7, .int .i64 j)] ∧ L = [] ∧ (n ≤ most → n = blocksSz (f.blocks.take k) + 1 + b.ins.length + argSum (b.ins.take j)) ∧ n < 2 ^ 55 ∧ (j = 0 → n ≤ most + 1 + b.ins.length)) (n := b.ins.length) ⟨0, n + 1 + b.ins.length, rfl, Nat.zero_le _, ⟨rfl, rfl, rfl, rfl, rfl, trivial⟩, rfl, fun _ => by rw [hne]; rfl, by omega, fun _ => by omega⟩ ?_
        rintro _ σ L ⟨j, n, rfl, hj, hs, rfl, hq1, hq2, hq3⟩
        refine Cd.has hs ?_
        refine Cd.seq ?_
        refine Cd.seq ?_
        cases h8 : decide ((j : Int) < (b.ins.length : Int)) with
        | true =>
          have hjl : j < b.ins.length := by simpa using h8
          obtain ⟨i, hi⟩ : ∃ i, b.ins[j]? = some i := ⟨_, List.getElem?_eq_getElem hjl⟩
          have him : i ∈ b.ins := List.mem_of_getElem? hi
          have hal := hfit.alen b hbm i him
          have hc6 : (b.ins.flatMap RIns.cells)[j * 8 + 6]? = some (.slice i.aA i.args.length i.aC) := flat_get RIns.len _ _ _ _ hi (by decide)
          refine Cd.region ?_
          refine Ol.p mvi ?_
          refine Ol.p mvs ?_
          refine Ol.p mvi ?_
          refine Ol.p (ixn sl_L_api_Block hsl) ?_
          refine Ol.p (fdp fd_api_Block_0) ?_
          refine Ol.p (ld one_L_api_Ins (Rd.slc hf.blocks hc0)) ?_
          refine Ol.p (lens sl_L_api_Ins) ?_
          refine Ol.p lsi ?_
          refine Ol.p mvb ?_
          refine Ol.gp h8 mvi ?_
          refine Ol.gp h8 mvi ?_
          refine Ol.gp h8 lei ?_
          refine Ol.p (pkTb h8) ?_
          refine Ol.nil ?_
          refine Cd.cond rfl (fun h => ?_) (fun h => ?_)
          · have hle : n ≤ most := by simpa using h
            refine Cd.skip ?_
            refine Cd.seq ?_
            refine Cd.block ?_
            refine Cd.region ?_
            refine Ol.p mvi ?_
            refine Ol.p mvs ?_
            refine Ol.p mvi ?_
            refine Ol.p (ixn sl_L_api_Block hsl) ?_
            refine Ol.p (fdp fd_api_Block_0) ?_
            refine Ol.p (ld one_L_api_Ins (Rd.slc hf.blocks hc0)) ?_
            refine Ol.p mvi ?_
            refine Ol.p (ixn sl_L_api_Ins (Som.slc hins (by omega))) ?_
            refine Ol.p (fdp fd_api_Ins_6) ?_
            refine Ol.p (ld one_L_int (Rd.slc hins hc6)) ?_
            refine Ol.p (lens sl_L_int) ?_
            refine Ol.p addi ?_
            refine Ol.p asi ?_
            refine Ol.nil ?_
            refine Cd.region ?_
            refine Ol.p mvi ?_
            refine Ol.p addi ?_
            refine Ol.p asi ?_
            refine Ol.nil ?_
            refine ⟨b.ins.length - (j + 1), by omega, j + 1, n + i.args.length, rfl, by omega, ⟨rfl, rfl, rfl, rfl, rfl, trivial⟩, rfl, fun h' => ?_, by omega, fun h' => by omega⟩
            rw [argSum_snoc hi, hq1 hle]
            omega
          · have hgt : most < n := by
              have : ¬ (n : Int) ≤ most := by simpa using h
              omega
            refine Cd.exit (id := 2) ?_
            exact ⟨n, ⟨rfl, rfl, rfl, rfl, trivial⟩, rfl, fun h' => by omega, hq2⟩
        | false =>
          have hje : j = b.ins.length := by
            have : ¬ (j : Int) < b.ins.length := by simpa using h8
            omega
          refine Cd.region ?_
          refine Ol.p mvi ?_
          refine Ol.p mvs ?_
          refine Ol.p mvi ?_
          refine Ol.p (ixn sl_L_api_Block hsl) ?_
          refine Ol.p (fdp fd_api_Block_0) ?_
          refine Ol.p (ld one_L_api_Ins (Rd.slc hf.blocks hc0)) ?_
          refine Ol.p (lens sl_L_api_Ins) ?_
          refine Ol.p lsi ?_
          refine Ol.p mvb ?_
          refine Ol.gn h8 ?_
          refine Ol.gn h8 ?_
          refine Ol.gn h8 ?_
          refine Ol.p (pkFb h8) ?_
          refine Ol.nil ?_
          refine Cd.cond rfl (fun h => by cases h) (fun h => ?_)
          refine Cd.exit (id := 2) ?_
          refine ⟨n, ⟨rfl, rfl, rfl, rfl, trivial⟩, rfl, fun h' => ?_, hq2⟩
          rw [hq1 h', hje, List.take_length, blocksSz_snoc hb]
          unfold bsz; omega
      · rintro σ' _ ⟨n', hs', rfl, hn'⟩
        refine Cd.has hs' ?_
        refine Cd.region ?_
        refine Ol.p mvi ?_
        refine Ol.p addi ?_
        refine Ol.p asi ?_
        refine Ol.nil ?_
        exact ⟨f.blocks.length - (k + 1), by omega, k + 1, n', rfl, by omega, ⟨rfl, rfl, rfl, rfl, trivial⟩, rfl, hn'⟩
    · have hgt : most < n := by
        have : ¬ (n : Int) ≤ most := by simpa using h
        omega
      refine Cd.exit (id := 0) ?_
      refine Cd.seq ?_
      refine Cd.region ?_
      refine Ol.p mvi ?_
      refine Ol.p asi ?_
      refine Ol.nil ?_
      exact Cd.ret ⟨.int .i64 _, ret1 rfl rfl, [], .nil, n, rfl, ⟨fun h' => by omega, hn2⟩, rfl⟩
  | false =>
    have hke : k = f.blocks.length := by
      have : ¬ (k : Int) < f.blocks.length := by simpa using h4
      omega
    subst hke
    refine Cd.region ?_
    refine Ol.p mvi ?_
    refine Ol.p mvs ?_
    refine Ol.p (lens sl_L_api_Block) ?_
    refine Ol.p lsi ?_
    refine Ol.p mvb ?_
    refine Ol.gn h4 ?_
    refine Ol.gn h4 ?_
    refine Ol.gn h4 ?_
    refine Ol.p (pkFb h4) ?_
    refine Ol.nil ?_
    refine Cd.cond rfl (fun h => by cases h) (fun h => ?_)
    refine Cd.exit (id := 0) ?_
    refine Cd.seq ?_
    refine Cd.region ?_
    refine Ol.p mvi ?_
    refine Ol.p asi ?_
    refine Ol.nil ?_
    rw [List.take_length] at hn1
    exact Cd.ret ⟨.int .i64 _, ret1 rfl rfl, [], .nil, n, rfl, ⟨hn1, hn2⟩, rfl⟩
theorem kit_FuncOf_ct {w : World} {f : RFun} {most : Nat} (hf : FunAt w w.heap.size f) (hfit : Fit f) (hm : most < 2 ^ 40) : Ct Try.prog 29 #[f.val, .int .i64 most] w (fun v R => ∃ n : Nat, v = .int .i64 n ∧ (n ≤ most → n = f.sz) ∧ n < 2 ^ 56 ∧ R = []) := by
  have hpl := hfit.plen
  refine Ct.mk Try.func29 rfl rfl ?_
  refine Cd.seq ?_
  refine Cd.region ?_
  refine Ol.x bxg ?_
  rintro _ _ ⟨g2, rfl, rfl⟩
  refine Ol.p asi ?_
  refine Ol.nil ?_
  refine Cd.seq ?_
  refine Cd.draw mixed 8 (fun j => match j with | 6 => some (fun v R => ∃ n : Nat, v = .int .i64 n ∧ Counted n most (blocksSz f.blocks) ∧ R = []) | _ => none) (fun _ => []) (by kernel_rfl) (by intro j V h; split at h <;> cases h; obtain ⟨n, hn⟩ := counted_ex hm (blocksSz f.blocks); exact ⟨_, _, n, rfl, hn, rfl⟩) (fun u hu => ?_)
  refine Wk.p (fdl fd_api_Func_0) ?_
  refine Wk.p (ld one_L_int (Rd.blk (i := 0) rfl rfl)) ?_
  refine Wk.p (lens sl_L_int) ?_
  refine Wk.p (fdl fd_api_Func_1) ?_
  refine Wk.p (ld one_L_api_Block (Rd.blk (i := 0) rfl rfl)) ?_
  refine Wk.p mvi ?_
  refine Wk.x hu (sp_call en_kit_BlocksOf (fun M w' hh => kit_BlocksOf_ct (hf.now hh) hfit hm)) ?_
  rintro _ _ hu6 ⟨n, rfl, ⟨hn1, hn2⟩, rfl⟩
  refine Wk.p addi ?_
  refine Wk.nil ?_
  rw [needs_cons hu6, needs_none]
  refine Ol.p asi ?_
  refine Ol.nil ?_
  exact Cd.ret ⟨.int .i64 _, ret1 rfl rfl, [], .nil, f.params.length + n, rfl, fun h' => by rw [hn1 (by omega)]; rfl, by omega, rfl⟩
end
end Go.Proofs.Ytcojedoejpcolaa

/- Picking. -/
namespace Go.Proofs.Ytcojedoejpcolaa
set_option linter.unusedVariables false
open Go Go.RowKit
set_option maxRecDepth 100000
section
def pickF (x : Int) (n : Nat) : Nat := (x % (n : Int)).toNat
theorem pickF_lt {x : Int} {n : Nat} (h : 0 < n) : pickF x n < n := by
  unfold pickF
  have h1 := Int.emod_nonneg x (b := (n : Int)) (by omega)
  have h2 := Int.emod_lt_of_pos x (b := (n : Int)) (by omega)
  omega
theorem kit_Pick_ct {w : World} {x : Int} {n : Nat} (hn : 0 < n) (hn2 : n < 2 ^ 62) : Ct Try.prog 31 #[.int .i64 x, .int .i64 n] w (Is (.int .i64 (pickF x n : Int))) := by
  have hr := Int.tmod_lt_of_pos x (b := (n : Int)) (by omega)
  have hr2 : -(n : Int) < x.tmod n := by
    have h1 := Int.emod_nonneg x (b := (n : Int)) (by omega)
    have h2 := Int.emod_lt_of_pos x (b := (n : Int)) (by omega)
    have h3 := Int.tmod_eq_emod (a := x) (b := (n : Int))
    by_cases hx : 0 ≤ x ∨ (n : Int) ∣ x
    · rw [if_pos hx] at h3; omega
    · rw [if_neg hx] at h3
      have h4 : x % (n : Int) ≠ 0 := fun e => hx (.inr (Int.dvd_of_emod_eq_zero e))
      omega
  have e1 : ¬ (x.tmod n < 0) → x.tmod n = (pickF x n : Int) := fun h => by
    unfold pickF
    have h1 := Int.emod_nonneg x (b := (n : Int)) (by omega)
    have h2 := Int.emod_lt_of_pos x (b := (n : Int)) (by omega)
    have h3 := Int.tmod_eq_emod (a := x) (b := (n : Int))
    rw [Int.toNat_of_nonneg h1]
    split at h3 <;> omega
  have e2 : x.tmod n < 0 → x.tmod n + n = (pickF x n : Int) := fun h => by
    unfold pickF
    have h1 := Int.emod_nonneg x (b := (n : Int)) (by omega)
    have h2 := Int.emod_lt_of_pos x (b := (n : Int)) (by omega)
    have h3 := Int.tmod_eq_emod (a := x) (b := (n : Int))
    rw [Int.toNat_of_nonneg h1]
    split at h3 <;> omega
  refine Ct.mk Try.func31 rfl rfl ?_
  refine Cd.seq ?_
  refine Cd.region ?_
  refine Ol.p asi ?_
  refine Ol.nil ?_
  refine Cd.seq ?_
  refine Cd.seq ?_
  refine Cd.region ?_
  refine Ol.p mvi ?_
  refine Ol.p lsi ?_
  refine Ol.nil ?_
  refine Cd.cond rfl (fun h => ?_) (fun h => ?_)
  · simp at h; omega
  refine Cd.skip ?_
  refine Cd.seq ?_
  refine Cd.region ?_
  refine Ol.p mvi ?_
  refine Ol.p mvi ?_
  refine Ol.p remi ?_
  refine Ol.p asi ?_
  refine Ol.nil ?_
  refine Cd.seq ?_
  refine Cd.seq ?_
  refine Cd.region ?_
  refine Ol.p mvi ?_
  refine Ol.p lsi ?_
  refine Ol.nil ?_
  refine Cd.cond rfl (fun h => ?_) (fun h => ?_)
  · have h' : x.tmod n < 0 := by simpa using h
    refine Cd.region ?_
    refine Ol.p mvi ?_
    refine Ol.p mvi ?_
    refine Ol.p addi ?_
    refine Ol.p asi ?_
    refine Ol.nil ?_
    refine Cd.seq ?_
    refine Cd.region ?_
    refine Ol.p mvi ?_
    refine Ol.p asi ?_
    refine Ol.nil ?_
    refine Cd.ret ⟨_, ret1 rfl rfl, [], .nil, ?_, rfl⟩
    rw [← e2 h']
    rfl
  · have h' : ¬ x.tmod n < 0 := by simpa using h
    refine Cd.skip ?_
    refine Cd.seq ?_
    refine Cd.region ?_
    refine Ol.p mvi ?_
    refine Ol.p asi ?_
    refine Ol.nil ?_
    refine Cd.ret ⟨_, ret1 rfl rfl, [], .nil, ?_, rfl⟩
    rw [← e1 h']
    rfl
end
end Go.Proofs.Ytcojedoejpcolaa

/- The law 03: its example; IrSafe, walked. -/
namespace Go.Proofs.Ytcojedoejpcolaa
set_option linter.unusedVariables false
open Go Go.RowKit
set_option maxRecDepth 100000

theorem reads_no {w : World} {B s : Nat} : Reads w B s none 0 [] := ⟨by simp, fun h => absurd h (by omega)⟩
theorem exposed_mid : ∀ {l : List RIns} {t : Tm} {v : Int} {k : Nat} {i : RIns}, l[k]? = some i → (∀ j, j < k → ∀ i', l[j]? = some i' → defI i' ≠ v) → v ∈ readsL i → exposed l t v = true
  | [], _, _, _, _, h, _, _ => by simp at h
  | a :: l, t, v, 0, i, h, _, hv => by
    have : a = i := by simpa using h
    subst this
    unfold exposed
    rw [Bool.or_eq_true]
    exact .inl (by simpa using hv)
  | a :: l, t, v, k + 1, i, h, hd, hv => by
    unfold exposed
    rw [Bool.or_eq_true, Bool.and_eq_true]
    refine .inr ⟨?_, exposed_mid (k := k) (i := i) (by simpa using h) (fun j hj i' hi' => hd (j + 1) (by omega) i' (by simpa using hi')) hv⟩
    have := hd 0 (by omega) a (by simp)
    simpa using this
theorem exposed_end : ∀ {l : List RIns} {t : Tm} {v : Int}, (∀ i ∈ l, defI i ≠ v) → v ∈ needsL t → exposed l t v = true
  | [], t, v, _, hv => by unfold exposed; simpa using hv
  | a :: l, t, v, hd, hv => by
    unfold exposed
    rw [Bool.or_eq_true, Bool.and_eq_true]
    exact .inr ⟨by simpa using hd a (by simp), exposed_end (fun i hi => hd i (by simp [hi])) hv⟩
section
def I03 : List RIns := [⟨1, 1, 0, 0, 5, 0, none, 0, [], 0⟩]
def B03 (gi : Nat) (a : Int) : RBlk := ⟨some ⟨gi, 0, none⟩, 1, I03, ⟨3, a, 0, 0⟩⟩
def F03 (gb gi : Nat) (a : Int) : RFun := ⟨none, 0, [], some ⟨gb, 0, none⟩, 1, [B03 gi a]⟩
theorem F03_fit {gb gi : Nat} {a : Int} (h : a = 1 ∨ a = 2) : Fit (F03 gb gi a) := by
  rcases h with rfl | rfl <;> constructor <;> simp [F03, B03, I03]
theorem F03_at {w : World} {B gb gi : Nat} {a : Int} (h : Reads w B 5 (some ⟨gb, 0, none⟩) 1 ((F03 gb gi a).blocks.flatMap RBlk.cells)) (hi : Reads w B 8 (some ⟨gi, 0, none⟩) 1 (I03.flatMap RIns.cells)) : FunAt w B (F03 gb gi a) := by
  refine ⟨reads_no, h, ?_, ?_⟩
  · intro b hb
    simp [F03] at hb
    subst hb
    exact hi
  · intro b hb i hi
    simp [F03] at hb
    subst hb
    simp [B03, I03] at hi
    subst hi
    exact reads_no
theorem F03_blk {gb gi b : Nat} {a : Int} {x : RBlk} (hx : (F03 gb gi a).blocks[b]? = some x) : b = 0 ∧ x = B03 gi a := by
  have h0 : b = 0 := by
    have := (List.getElem?_eq_some_iff.1 hx).1
    simp [F03] at this; exact this
  subst h0
  exact ⟨rfl, by simpa [F03] using hx.symm⟩
theorem F03_ord {gb gi : Nat} {a : Int} (h : a = 1 ∨ a = 2) : decide ((orderF (F03 gb gi a).terms).length < (F03 gb gi a).blocks.length) = false := by
  rw [decide_eq_false_iff_not]
  have : (0 : Nat) ∈ orderF (F03 gb gi a).terms := by
    rcases h with rfl | rfl
    · exact List.contains_iff_mem.1 (show (orderF [(⟨3, 1, 0, 0⟩ : Tm)]).contains 0 = true by kernel_rfl)
    · exact List.contains_iff_mem.1 (show (orderF [(⟨3, 2, 0, 0⟩ : Tm)]).contains 0 = true by kernel_rfl)
  have h1 := List.length_pos_of_mem this
  have h2 : (F03 gb gi a).blocks.length = 1 := rfl
  omega
theorem e03r : readsL ⟨1, 1, 0, 0, 5, 0, none, 0, [], 0⟩ = [] := by kernel_rfl
theorem e03d : defI ⟨1, 1, 0, 0, 5, 0, none, 0, [], 0⟩ = 1 := by kernel_rfl
theorem F03_r1 {gb gi : Nat} : rightF (F03 gb gi 1) = 0 := by
  rw [rightF_iff]
  refine ⟨by kernel_rfl, by kernel_rfl, by kernel_rfl, by have := F03_ord (gb := gb) (gi := gi) (.inl rfl); simpa using this, ?_⟩
  rw [valuedF_iff]
  intro b x v hx he
  obtain ⟨rfl, rfl⟩ := F03_blk hx
  exfalso
  have e5 : needsL ⟨3, 1, 0, 0⟩ = [1] := by kernel_rfl
  simp [B03, I03, exposed, e03r, e03d, e5] at he
  omega
theorem F03_v2 {gb gi : Nat} : valuedF (F03 gb gi 2) = false := by
  rw [← Bool.not_eq_true, valuedF_iff]
  intro h
  have e5 : needsL ⟨3, 2, 0, 0⟩ = [2] := by kernel_rfl
  refine h 0 (B03 gi 2) 2 rfl ?_ (.zero fun p hp => ?_)
  · simp [B03, I03, exposed, e03r, e03d, e5]
  · simp [F03] at hp
theorem F03_r2 {gb gi : Nat} : rightF (F03 gb gi 2) = 8 := by
  unfold rightF
  rw [show longF (F03 gb gi 2) = false by kernel_rfl, show wholeF (F03 gb gi 2) = true by kernel_rfl, show okEs (F03 gb gi 2).terms = true by kernel_rfl, F03_ord (.inr rfl), F03_v2]
  rfl
theorem F03_vars {gb gi : Nat} : (varsF (F03 gb gi 1)).length = 1 := by kernel_rfl
theorem F03_size {gb gi : Nat} : sizeF (F03 gb gi 1) = 2 := by kernel_rfl
set_option maxHeartbeats 2000000 in
theorem law03_awake_ct {w : World} : Ct Try.prog 12 #[] w (Is (.bool true)) := by
  refine Ct.mk Try.func12 rfl rfl ?_
  refine Cd.seq ?_
  refine Cd.region ?_
  refine Ol.p asb ?_
  refine Ol.nil ?_
  refine Cd.seq ?_
  refine Cd.region ?_
  refine Ol.p (bds (cs := (RIns.cells ⟨1, 1, 0, 0, 5, 0, none, 0, [], 0⟩).toArray) bs_api_Ins zr_api_Ins (hf := by kernel_rfl)) ?_
  refine Ol.x (bsn [RIns.val ⟨1, 1, 0, 0, 5, 0, none, 0, [], 0⟩] sl_L_api_Ins zr_api_Ins (by intro v hv; simp at hv; subst hv; rfl) rfl (by decide) (by decide)) ?_
  rintro _ _ ⟨gi, rfl, rfl⟩
  refine Ol.p (bds (cs := #[.int .i64 3, .int .i64 1, .int .i64 0, .int .i64 0]) bs_api_Term zr_api_Term (hf := by kernel_rfl)) ?_
  refine Ol.p (bds (cs := #[.slice (some ⟨gi, 0, none⟩) 1 1, .int .i64 3, .int .i64 1, .int .i64 0, .int .i64 0]) bs_api_Block zr_api_Block (hf := by kernel_rfl)) ?_
  refine Ol.x (bsn [RBlk.val (B03 gi 1)] sl_L_api_Block zr_api_Block (by intro v hv; simp at hv; subst hv; rfl) rfl (by decide) (by decide)) ?_
  rintro _ _ ⟨gb, rfl, rfl⟩
  refine Ol.p (bds (cs := #[.slice none 0 0, .slice (some ⟨gb, 0, none⟩) 1 1]) bs_api_Func zr_api_Func (hf := by kernel_rfl)) ?_
  refine Ol.x (alc zr_api_Func) ?_
  rintro _ _ ⟨g1, rfl, rfl⟩
  refine Ol.s (stw (vs := #[.slice none 0 0, .slice (some ⟨gb, 0, none⟩) 1 1]) sz_api_Func rfl (by intro u hu; simp at hu; rcases hu with rfl | rfl <;> rfl) (i := 0) rfl rfl) ?_
  refine Ol.nil ?_
  refine Cd.seq ?_
  refine Cd.region ?_
  refine Ol.p (fdl fd_api_Func_1) ?_
  refine Ol.p (ld one_L_api_Block (Rd.blk (i := 0) rfl rfl)) ?_
  refine Ol.p (ixn (ix := 0) sl_L_api_Block (Som.row (i := 1) rfl Nat.one_pos)) ?_
  refine Ol.p (fdp fd_api_Block_0) ?_
  refine Ol.p (ld (v := .slice (some ⟨gi, 0, none⟩) 1 1) one_L_api_Ins (Rd.row (i := 1) rfl rfl)) ?_
  refine Ol.p (bds (cs := #[.int .i64 3, .int .i64 2, .int .i64 0, .int .i64 0]) bs_api_Term zr_api_Term (hf := by kernel_rfl)) ?_
  refine Ol.p (bds (cs := #[.slice (some ⟨gi, 0, none⟩) 1 1, .int .i64 3, .int .i64 2, .int .i64 0, .int .i64 0]) bs_api_Block zr_api_Block (hf := by kernel_rfl)) ?_
  refine Ol.x (bsn [RBlk.val (B03 gi 2)] sl_L_api_Block zr_api_Block (by intro v hv; simp at hv; subst hv; rfl) rfl (by decide) (by decide)) ?_
  rintro _ _ ⟨gb2, rfl, rfl⟩
  refine Ol.p (bds (cs := #[.slice none 0 0, .slice (some ⟨gb2, 0, none⟩) 1 1]) bs_api_Func zr_api_Func (hf := by kernel_rfl)) ?_
  refine Ol.x (alc zr_api_Func) ?_
  rintro _ _ ⟨g2, rfl, rfl⟩
  refine Ol.s (stw (vs := #[.slice none 0 0, .slice (some ⟨gb2, 0, none⟩) 1 1]) sz_api_Func rfl (by intro u hu; simp at hu; rcases hu with rfl | rfl <;> rfl) (i := 0) rfl rfl) ?_
  refine Ol.nil ?_
  have hv := F03_vars (gb := gb) (gi := gi)
  have hf1 : ∀ {M : List Res} {w' : World}, Hp w w.heap.size (M ++ [blk g2 (.cells #[.slice none 0 0, .slice (some ⟨gb2, 0, none⟩) 1 1] 43), row (.slice (some ⟨gb2, 0, none⟩) 1 1) 50 5 1 ((B03 gi 2).cells), blk g1 (.cells #[.slice none 0 0, .slice (some ⟨gb, 0, none⟩) 1 1] 43), row (.slice (some ⟨gb, 0, none⟩) 1 1) 50 5 1 ((B03 gi 1).cells), row (.slice (some ⟨gi, 0, none⟩) 1 1) 25 8 1 (I03.flatMap RIns.cells)]) w' → FunAt w' w'.heap.size (F03 gb gi 1) := fun hh => F03_at (Reads.row hh (i := 3) rfl) (Reads.row hh (i := 4) rfl)
  have hf2 : ∀ {M : List Res} {w' : World}, Hp w w.heap.size (M ++ [blk g2 (.cells #[.slice none 0 0, .slice (some ⟨gb2, 0, none⟩) 1 1] 43), row (.slice (some ⟨gb2, 0, none⟩) 1 1) 50 5 1 ((B03 gi 2).cells), blk g1 (.cells #[.slice none 0 0, .slice (some ⟨gb, 0, none⟩) 1 1] 43), row (.slice (some ⟨gb, 0, none⟩) 1 1) 50 5 1 ((B03 gi 1).cells), row (.slice (some ⟨gi, 0, none⟩) 1 1) 25 8 1 (I03.flatMap RIns.cells)]) w' → FunAt w' w'.heap.size (F03 gb2 gi 2) := fun hh => F03_at (Reads.row hh (i := 1) rfl) (Reads.row hh (i := 4) rfl)
  have hr1 : decide (rightF (F03 gb gi 1) = 0) = true := by rw [F03_r1]; rfl
  have hr2 : decide (rightF (F03 gb2 gi 2) = 8) = true := by rw [F03_r2]; rfl
  have hv1 : decide (((varsF (F03 gb gi 1)).length : Int) = 1) = true := by rw [hv]; rfl
  refine Cd.seq ?_
  refine Cd.region ?_
  refine Ol.p (ldw ag_api_Func (i := 2) rfl rfl) ?_
  refine Ol.s (cl en_ir_Right (fun M w' hh => ir_Right_ct (f := F03 gb gi 1) (hf1 hh) (F03_fit (.inl rfl)))) ?_
  refine Ol.p eqi ?_
  refine Ol.p mvb ?_
  refine Ol.gp hr1 (ldw ag_api_Func (i := 0) rfl rfl) ?_
  refine Ol.gs hr1 (cl en_ir_Right (fun M w' hh => ir_Right_ct (f := F03 gb2 gi 2) (hf2 hh) (F03_fit (.inr rfl)))) ?_
  refine Ol.gp hr1 eqi ?_
  refine Ol.p (pkTb hr1) ?_
  refine Ol.p mvb ?_
  refine Ol.gp hr2 (ldw ag_api_Func (i := 2) rfl rfl) ?_
  refine Ol.gx hr2 (sp_call en_ir_Vars (fun M w' hh => ir_Vars_ct (f := F03 gb gi 1) (hf1 hh) (F03_fit (.inl rfl)))) ?_
  rintro _ _ ⟨_, rfl, A28, c28, rfl, rfl⟩
  refine Ol.gp hr2 (lens sl_L_int) ?_
  refine Ol.gp hr2 eqi ?_
  refine Ol.p (pkTb hr2) ?_
  refine Ol.p mvb ?_
  refine Ol.gp hv1 (ldw ag_api_Func (i := 3) rfl rfl) ?_
  refine Ol.gs hv1 (cl en_ir_Size (fun M w' hh => ir_Size_ct (f := F03 gb gi 1) (F03_at (Reads.row hh (i := 4) rfl) (Reads.row hh (i := 5) rfl)) (F03_fit (.inl rfl)))) ?_
  refine Ol.gp hv1 eqi ?_
  refine Ol.p (pkTb hv1) ?_
  refine Ol.p asb ?_
  refine Ol.nil ?_
  refine Cd.ret ⟨.bool _, ret1 rfl rfl, _, .nil, ?_, rfl⟩
  rw [F03_size]
  rfl
end
section
set_option maxHeartbeats 8000000 in
theorem law03_IrSafe_ct {w : World} {f : RFun} {Aw : Option Addr} {cw : Nat} {way : List Int} (hf : FunAt w w.heap.size f) (hfit : Fit f) (hw : Reads w w.heap.size 1 Aw way.length (ints way)) (hwl : way.length < 2 ^ 60) : Ct Try.prog 4 #[f.val, .slice Aw way.length cw] w (Is (.bool true)) := by
  have hbl := hfit.blen
  have hpl := hfit.plen
  refine Ct.mk Try.func4 rfl rfl ?_
  refine Cd.seq ?_
  refine Cd.region ?_
  refine Ol.x bxg ?_
  rintro _ _ ⟨g2, rfl, rfl⟩
  refine Ol.p asb ?_
  refine Ol.nil ?_
  refine Cd.seq ?_
  refine Cd.seq ?_
  refine Cd.region ?_
  refine Ol.s (cl en_law03_awake (fun M w' hh => law03_awake_ct)) ?_
  refine Ol.p noti ?_
  refine Ol.nil ?_
  refine Cd.cond rfl (fun h => by cases h) (fun h => ?_)
  refine Cd.skip ?_
  refine Cd.seq ?_
  refine Cd.mid (fun σ' L' => ∃ b : Bool, (b = false → way.length ≤ 300 ∧ rightF f = 0) ∧ Has σ' [(1, .slice Aw way.length cw), (2, .pointer (some ⟨g2, 0, none⟩)), (29, .bool b)] ∧ [blk g2 (.cells f.cells.toArray 43)] = L') ?_ ?_
  · skip
    refine Cd.region ?_
    refine Ol.p (ldw ag_api_Func (i := 0) rfl rfl) ?_
    refine Ol.x (sp_call en_kit_FuncOf (fun M w' hh => kit_FuncOf_ct (hf.now hh) hfit (most := 700) (by decide))) ?_
    rintro _ _ ⟨_, rfl, N, rfl, hN1, hN2, rfl⟩
    cases h3 : decide ((700 : Int) < (N : Int)) with
    | true =>
      refine Ol.p gti ?_
      refine Ol.p mvb ?_
      refine Ol.gn h3 ?_
      refine Ol.gn h3 ?_
      refine Ol.gn h3 ?_
      refine Ol.p (pkTb h3) ?_
      refine Ol.p mvb ?_
      refine Ol.gn rfl ?_
      refine Ol.gn rfl ?_
      refine Ol.gn rfl ?_
      refine Ol.p (pkTb rfl) ?_
      refine Ol.nil ?_
      exact ⟨true, (fun h => by cases h), ⟨rfl, rfl, rfl, trivial⟩, rfl⟩
    | false =>
      cases h8 : decide ((300 : Int) < (way.length : Int)) with
      | true =>
        refine Ol.p gti ?_
        refine Ol.p mvb ?_
        refine Ol.gp h3 mvs ?_
        refine Ol.gp h3 (lens sl_L_int) ?_
        refine Ol.gp h3 gti ?_
        refine Ol.p (pkFb h3) ?_
        refine Ol.p mvb ?_
        refine Ol.gn h8 ?_
        refine Ol.gn h8 ?_
        refine Ol.gn h8 ?_
        refine Ol.p (pkTb h8) ?_
        refine Ol.nil ?_
        exact ⟨true, (fun h => by cases h), ⟨rfl, rfl, rfl, trivial⟩, rfl⟩
      | false =>
        refine Ol.p gti ?_
        refine Ol.p mvb ?_
        refine Ol.gp h3 mvs ?_
        refine Ol.gp h3 (lens sl_L_int) ?_
        refine Ol.gp h3 gti ?_
        refine Ol.p (pkFb h3) ?_
        refine Ol.p mvb ?_
        refine Ol.gp h8 (ldw ag_api_Func (i := 0) rfl rfl) ?_
        refine Ol.gs h8 (cl en_ir_Right (fun M w' hh => ir_Right_ct (hf.now hh) hfit)) ?_
        refine Ol.gp h8 nei ?_
        refine Ol.p (pkFb h8) ?_
        refine Ol.nil ?_
        exact ⟨_, (fun h => ⟨by simp only [decide_eq_false_iff_not] at h8; omega, by simpa using h⟩), ⟨rfl, rfl, rfl, trivial⟩, rfl⟩
  rintro σ' _ ⟨b29, hb29, hs', rfl⟩
  refine Cd.has hs' ?_
  refine Cd.cond rfl (fun h => ?_) (fun h => ?_)
  · refine Cd.seq ?_
    refine Cd.region ?_
    refine Ol.p asb ?_
    refine Ol.nil ?_
    exact Cd.ret ⟨.bool _, ret1 rfl rfl, [], .nil, rfl, rfl⟩
  obtain ⟨hw300, hr⟩ := hb29 h
  clear hs' h hb29
  obtain ⟨hlong, hwhole, hok, hord, hval⟩ := rightF_iff.1 hr
  obtain ⟨h0, h200, h8, h64⟩ := long_parts hlong
  have hprm := whole_params hwhole
  refine Cd.skip ?_
  refine Cd.seq ?_
  refine Cd.region ?_
  refine Ol.x (alc zr_A201_bool) ?_
  rintro _ _ ⟨g5, rfl, rfl⟩
  refine Ol.nil ?_
  -- the parameters
  refine Cd.mid (fun σ' L' => ∃ S : VS, (∀ v, S v = false → ∀ p ∈ f.params, p.toNat ≠ v) ∧ Has σ' [(1, .slice Aw way.length cw), (2, .pointer (some ⟨g2, 0, none⟩)), (5, .pointer (some ⟨g5, 0, none⟩))] ∧ [blk g5 (.cells (encV S) 47), blk g2 (.cells f.cells.toArray 43)] = L') ?_ ?_
  · refine Cd.seq ?_
    refine Cd.region ?_
    refine Ol.p asi ?_
    refine Ol.nil ?_
    refine Cd.block ?_
    refine Cd.loop (fun m σ L => ∃ k, m = f.params.length - k ∧ k ≤ f.params.length ∧ Has σ [(1, .slice Aw way.length cw), (2, .pointer (some ⟨g2, 0, none⟩)), (5, .pointer (some ⟨g5, 0, none⟩)), (6, .int .i64 k)] ∧ [blk g5 (.cells (encV (putsV noS (f.params.take k) true)) 47), blk g2 (.cells f.cells.toArray 43)] = L) (n := f.params.length) ⟨0, rfl, Nat.zero_le _, ⟨rfl, rfl, rfl, rfl, trivial⟩, by rw [show putsV noS (f.params.take 0) true = fun _ => false from rfl, ← zeroV]; rfl⟩ ?_
    rintro _ σ L ⟨k, rfl, hk, hs, rfl⟩
    refine Cd.has hs ?_
    clear hs
    refine Cd.seq ?_
    refine Cd.seq ?_
    refine Cd.region ?_
    refine Ol.p mvi ?_
    refine Ol.p (fdl fd_api_Func_0) ?_
    refine Ol.p (ld one_L_int (Rd.blk (i := 1) rfl rfl)) ?_
    refine Ol.p (lens sl_L_int) ?_
    refine Ol.p lsi ?_
    refine Ol.nil ?_
    refine Cd.cond rfl (fun h => ?_) (fun h => ?_)
    · have hlt : k < f.params.length := by
        simp only [decide_eq_true_eq] at h; omega
      obtain ⟨n, hn⟩ : ∃ n, f.params[k]? = some n := ⟨_, List.getElem?_eq_getElem hlt⟩
      have hnr := hprm n (List.mem_of_getElem? hn)
      obtain ⟨m, rfl⟩ : ∃ m : Nat, n = (m : Int) := ⟨n.toNat, by omega⟩
      refine Cd.skip ?_
      refine Cd.seq ?_
      refine Cd.block ?_
      refine Cd.region ?_
      refine Ol.p (fdl fd_api_Func_0) ?_
      refine Ol.p (ld one_L_int (Rd.blk (i := 1) rfl rfl)) ?_
      refine Ol.p mvi ?_
      refine Ol.p (ixn1 (ix := k) sl_L_int (Som.slc hf.params (by omega))) ?_
      refine Ol.p (ld one_int (Rd.slc hf.params (ints_at hn))) ?_
      refine Ol.p (ixl1 (ix := m) ar_A201_bool) ?_
      refine Ol.s (sto (v := .bool true) (i := 0) (k := m) (.inr sz_bool) rfl rfl rfl (by rw [encV_size]; omega) rfl) ?_
      refine Ol.nil ?_
      refine Cd.region ?_
      refine Ol.p mvi ?_
      refine Ol.p addi ?_
      refine Ol.p asi ?_
      refine Ol.nil ?_
      refine ⟨f.params.length - (k + 1), by omega, k + 1, rfl, by omega, ⟨rfl, rfl, rfl, rfl, trivial⟩, ?_⟩
      rw [take_snoc_ hn, putsV_snoc, ← encV_set]
      rfl
    have hke : k = f.params.length := by
      simp only [decide_eq_false_iff_not] at h; omega
    refine Cd.exit (id := 0) ⟨putsV noS f.params true, fun v hv p hp e => ?_, ⟨rfl, rfl, rfl, trivial⟩, by rw [hke, List.take_of_length_le (Nat.le_refl _)]⟩
    have : putsV noS f.params true v = true := putsV_iff.2 (.inr ⟨p, hp, e⟩)
    rw [this] at hv; cases hv
  rintro σ' _ ⟨S0, hS0, hs', rfl⟩
  refine Cd.has hs' ?_
  clear hs'
  refine Cd.seq ?_
  refine Cd.region ?_
  refine Ol.p asi ?_
  refine Ol.nil ?_
  -- the way
  refine Cd.mid (fun σ' L' => True) ?_ ?_
  · refine Cd.seq ?_
    refine Cd.region ?_
    refine Ol.p asi ?_
    refine Ol.nil ?_
    refine Cd.block ?_
    refine Cd.loop (fun m σ L => ∃ (k b : Nat) (S : VS), m = way.length - k ∧ k ≤ way.length ∧ b < f.blocks.length ∧ (∀ v, S v = false → Bare f v b) ∧ Has σ [(1, .slice Aw way.length cw), (2, .pointer (some ⟨g2, 0, none⟩)), (5, .pointer (some ⟨g5, 0, none⟩)), (7, .int .i64 b), (8, .int .i64 k)] ∧
      [blk g5 (.cells (encV S) 47), blk g2 (.cells f.cells.toArray 43)] = L) (n := way.length) ⟨0, 0, S0, rfl, Nat.zero_le _, h0, fun v hv => .zero (hS0 v hv), ⟨rfl, rfl, rfl, rfl, rfl, trivial⟩, rfl⟩ ?_
    rintro _ σ L ⟨k, b, S, rfl, hk, hbn, hbare, hs, rfl⟩
    refine Cd.has hs ?_
    clear hs
    have hkw : decide ((k : Int) ≤ (way.length : Int)) = true := by rw [decide_eq_true_iff]; omega
    obtain ⟨x, hx⟩ : ∃ x, f.blocks[b]? = some x := ⟨_, List.getElem?_eq_getElem hbn⟩
    have hxm := List.mem_of_getElem? hx
    have hxl := h64 x hxm
    have hsafe := fun v he => valuedF_iff.1 hval b x v hx he
    have htoL := toL_len x.term
    have hnl := needsL_len x.term
    refine Cd.seq ?_
    refine Cd.seq ?_
    refine Cd.region ?_
    refine Ol.p mvi ?_
    refine Ol.p mvs ?_
    refine Ol.p (lens sl_L_int) ?_
    refine Ol.p lei ?_
    refine Ol.nil ?_
    refine Cd.cond rfl (fun h => ?_) (fun h => by rw [hkw] at h; cases h)
    refine Cd.skip ?_
    refine Cd.seq ?_
    refine Cd.block ?_
    refine Cd.seq ?_
    refine Cd.region ?_
    refine Ol.p (fdl fd_api_Func_1) ?_
    refine Ol.p (ld one_L_api_Block (Rd.blk (i := 1) rfl rfl)) ?_
    refine Ol.p mvi ?_
    refine Ol.p (ixn (ix := b) sl_L_api_Block (Som.slc hf.blocks (by omega))) ?_
    refine Ol.p (lds (es := x.cells) ag_api_Block hf.blocks x.len (fun j u hu => blk_cell hx hu)) ?_
    refine Ol.x (alc zr_api_Block) ?_
    rintro _ _ ⟨g9, rfl, rfl⟩
    refine Ol.s (stw (vs := x.cells.toArray) sz_api_Block rfl x.one (i := 0) rfl rfl) ?_
    refine Ol.nil ?_
    refine Cd.mid (fun σ' L' => ∃ S' : VS, (∀ v, S' v = false → Bare f v b ∧ ∀ i ∈ x.ins, (defI i).toNat ≠ v) ∧ Has σ' [(1, .slice Aw way.length cw), (2, .pointer (some ⟨g2, 0, none⟩)), (5, .pointer (some ⟨g5, 0, none⟩)), (7, .int .i64 b), (8, .int .i64 k), (9, .pointer (some ⟨g9, 0, none⟩))] ∧
      [blk g9 (.cells x.cells.toArray 50), blk g5 (.cells (encV S') 47), blk g2 (.cells f.cells.toArray 43)] = L') ?_ ?_
    · refine Cd.seq ?_
      refine Cd.region ?_
      refine Ol.p asi ?_
      refine Ol.nil ?_
      refine Cd.block ?_
      refine Cd.loop (fun m σ L => ∃ (q : Nat) (S' : VS), m = x.ins.length - q ∧ q ≤ x.ins.length ∧ (∀ v, S' v = false → Bare f v b ∧ ∀ j, j < q → ∀ i, x.ins[j]? = some i → (defI i).toNat ≠ v) ∧ Has σ [(1, .slice Aw way.length cw), (2, .pointer (some ⟨g2, 0, none⟩)), (5, .pointer (some ⟨g5, 0, none⟩)), (7, .int .i64 b), (8, .int .i64 k), (9, .pointer (some ⟨g9, 0, none⟩)), (10, .int .i64 q)] ∧
        [blk g9 (.cells x.cells.toArray 50), blk g5 (.cells (encV S') 47), blk g2 (.cells f.cells.toArray 43)] = L) (n := x.ins.length) ⟨0, S, rfl, Nat.zero_le _, fun v hv => ⟨hbare v hv, fun j hj => by omega⟩, ⟨rfl, rfl, rfl, rfl, rfl, rfl, rfl, trivial⟩, rfl⟩ ?_
      rintro _ σ L ⟨q, S', rfl, hq, hbr, hs, rfl⟩
      refine Cd.has hs ?_
      clear hs
      refine Cd.seq ?_
      refine Cd.seq ?_
      refine Cd.region ?_
      refine Ol.p mvi ?_
      refine Ol.p (fdl fd_api_Block_0) ?_
      refine Ol.p (ld one_L_api_Ins (Rd.blk (i := 0) rfl rfl)) ?_
      refine Ol.p (lens sl_L_api_Ins) ?_
      refine Ol.p lsi ?_
      refine Ol.nil ?_
      refine Cd.cond rfl (fun h => ?_) (fun h => ?_)
      · have hql : q < x.ins.length := by
          simp only [decide_eq_true_eq] at h; omega
        obtain ⟨i, hi⟩ : ∃ i, x.ins[q]? = some i := ⟨_, List.getElem?_eq_getElem hql⟩
        have him := List.mem_of_getElem? hi
        have hrl := readsL_len i
        have hal := hfit.alen x hxm i him
        have hdr := defI_range i
        have hia : ∀ {M : List Res} {w' : World}, Hp w w.heap.size M w' → InsAt w' i := fun hh => ⟨(hf.args x hxm i him).now hh, hal, hfit.insr x hxm i him i.callee (by simp)⟩
        obtain ⟨dn, hdn⟩ : ∃ dn : Nat, defI i = (dn : Int) := ⟨(defI i).toNat, by omega⟩
        refine Cd.skip ?_
        refine Cd.seq ?_
        refine Cd.block ?_
        refine Cd.seq ?_
        refine Cd.region ?_
        refine Ol.p (fdl fd_api_Block_0) ?_
        refine Ol.p (ld one_L_api_Ins (Rd.blk (i := 0) rfl rfl)) ?_
        refine Ol.p mvi ?_
        refine Ol.p (ixn (ix := q) sl_L_api_Ins (Som.slc (hf.ins x hxm) (by omega))) ?_
        refine Ol.p (lds (es := i.cells) ag_api_Ins (hf.ins x hxm) i.len (fun j u hu => ins_cell hi hu)) ?_
        refine Ol.x (sp_call en_ir_Reads (fun M w' hh => ir_Reads_ct (hia hh))) ?_
        rintro _ _ ⟨_, rfl, A66, c66, rfl, rfl⟩
        refine Ol.p ass ?_
        refine Ol.nil ?_
        refine Cd.mid (fun σ' L' => Has σ' [(1, .slice Aw way.length cw), (2, .pointer (some ⟨g2, 0, none⟩)), (5, .pointer (some ⟨g5, 0, none⟩)), (7, .int .i64 b), (8, .int .i64 k), (9, .pointer (some ⟨g9, 0, none⟩)), (10, .int .i64 q)] ∧
          [blk g9 (.cells x.cells.toArray 50), blk g5 (.cells (encV S') 47), blk g2 (.cells f.cells.toArray 43)] = L') ?_ ?_
        · refine Cd.seq ?_
          refine Cd.region ?_
          refine Ol.p asi ?_
          refine Ol.nil ?_
          refine Cd.block ?_
          refine Cd.loop (fun m σ L => ∃ j, m = (readsL i).length - j ∧ j ≤ (readsL i).length ∧ Has σ [(1, .slice Aw way.length cw), (2, .pointer (some ⟨g2, 0, none⟩)), (5, .pointer (some ⟨g5, 0, none⟩)), (7, .int .i64 b), (8, .int .i64 k), (9, .pointer (some ⟨g9, 0, none⟩)), (10, .int .i64 q), (11, .slice A66 (readsL i).length c66), (12, .int .i64 j)] ∧
            [row (.slice A66 (readsL i).length c66) 3 1 (readsL i).length (ints (readsL i)), blk g9 (.cells x.cells.toArray 50), blk g5 (.cells (encV S') 47), blk g2 (.cells f.cells.toArray 43)] = L) (n := (readsL i).length) ⟨0, rfl, Nat.zero_le _, ⟨rfl, rfl, rfl, rfl, rfl, rfl, rfl, rfl, rfl, trivial⟩, rfl⟩ ?_
          rintro _ σ L ⟨j, rfl, hj, hs, rfl⟩
          refine Cd.has hs ?_
          clear hs
          refine Cd.seq ?_
          refine Cd.seq ?_
          refine Cd.region ?_
          refine Ol.p mvi ?_
          refine Ol.p mvs ?_
          refine Ol.p (lens sl_L_int) ?_
          refine Ol.p lsi ?_
          refine Ol.nil ?_
          refine Cd.cond rfl (fun h2 => ?_) (fun h2 => ?_)
          · have hjl : j < (readsL i).length := by
              simp only [decide_eq_true_eq] at h2; omega
            obtain ⟨n, hn⟩ : ∃ n, (readsL i)[j]? = some n := ⟨_, List.getElem?_eq_getElem hjl⟩
            have hnm := List.mem_of_getElem? hn
            have hnr := readsL_mem hnm
            obtain ⟨m, rfl⟩ : ∃ m : Nat, n = (m : Int) := ⟨n.toNat, by omega⟩
            have hSm : S' m = true := by
              cases hc : S' m with
              | true => rfl
              | false =>
                obtain ⟨h5, h6⟩ := hbr m hc
                refine absurd h5 ?_
                have := hsafe (m : Int) (exposed_mid hi (fun j' hj' i' hi' e => h6 j' hj' i' hi' (by rw [e]; simp)) hnm)
                simpa using this
            refine Cd.skip ?_
            refine Cd.seq ?_
            refine Cd.block ?_
            refine Cd.seq ?_
            refine Cd.region ?_
            refine Ol.p mvs ?_
            refine Ol.p mvi ?_
            refine Ol.p (ixn1 (ix := j) sl_L_int (Som.row (i := 0) rfl (by omega))) ?_
            refine Ol.p (ld one_int (Rd.row (i := 0) rfl (ints_at hn))) ?_
            refine Ol.p (ixl1 (ix := m) ar_A201_bool) ?_
            refine Ol.p (ld one_bool (Rd.blk (i := 2) rfl (encV_get (i := m) (by omega)))) ?_
            refine Ol.p noti ?_
            refine Ol.nil ?_
            refine Cd.cond rfl (fun h3 => by rw [hSm] at h3; cases h3) (fun h3 => ?_)
            refine Cd.skip ?_
            refine Cd.region ?_
            refine Ol.p mvi ?_
            refine Ol.p addi ?_
            refine Ol.p asi ?_
            refine Ol.nil ?_
            exact ⟨(readsL i).length - (j + 1), by omega, j + 1, rfl, by omega, ⟨rfl, rfl, rfl, rfl, rfl, rfl, rfl, rfl, rfl, trivial⟩, rfl⟩
          refine Cd.keep (.sub (.cons _ (List.Sublist.refl _))) ?_
          exact Cd.exit (id := 6) ⟨⟨rfl, rfl, rfl, rfl, rfl, rfl, rfl, trivial⟩, rfl⟩
        rintro σ' _ ⟨hs', rfl⟩
        refine Cd.has hs' ?_
        clear hs'
        refine Cd.region ?_
        refine Ol.p (fdl fd_api_Block_0) ?_
        refine Ol.p (ld one_L_api_Ins (Rd.blk (i := 0) rfl rfl)) ?_
        refine Ol.p mvi ?_
        refine Ol.p (ixn (ix := q) sl_L_api_Ins (Som.slc (hf.ins x hxm) (by omega))) ?_
        refine Ol.p (lds (es := i.cells) ag_api_Ins (hf.ins x hxm) i.len (fun j u hu => ins_cell hi hu)) ?_
        refine Ol.s (cl (v := .int .i64 (dn : Int)) en_ir_Defines (fun M w' hh => by have := ir_Defines_ct (hia hh); rw [hdn] at this; exact this)) ?_
        refine Ol.p (ixl1 (ix := dn) ar_A201_bool) ?_
        refine Ol.s (sto (v := .bool true) (i := 1) (k := dn) (.inr sz_bool) rfl rfl rfl (by rw [encV_size]; omega) rfl) ?_
        refine Ol.nil ?_
        rw [encV_set]
        refine Cd.region ?_
        refine Ol.p mvi ?_
        refine Ol.p addi ?_
        refine Ol.p asi ?_
        refine Ol.nil ?_
        refine ⟨x.ins.length - (q + 1), by omega, q + 1, putV S' dn true, rfl, by omega, fun v hv => ?_, ⟨rfl, rfl, rfl, rfl, rfl, rfl, rfl, trivial⟩, rfl⟩
        unfold putV at hv
        by_cases e : v = dn
        · rw [if_pos e] at hv; cases hv
        · rw [if_neg e] at hv
          obtain ⟨h5, h6⟩ := hbr v hv
          refine ⟨h5, fun j hj i' hi' => ?_⟩
          by_cases ej : j = q
          · subst ej
            rw [hi] at hi'; cases hi'
            rw [hdn]; simpa using fun e2 => e e2.symm
          · exact h6 j (by omega) i' hi'
      have hqe : q = x.ins.length := by
        simp only [decide_eq_false_iff_not] at h; omega
      refine Cd.exit (id := 4) ⟨S', fun v hv => ⟨(hbr v hv).1, fun i hi => ?_⟩, ⟨rfl, rfl, rfl, rfl, rfl, rfl, trivial⟩, rfl⟩
      obtain ⟨j, hj⟩ := List.mem_iff_getElem?.1 hi
      exact (hbr v hv).2 j (by rw [hqe]; exact (List.getElem?_eq_some_iff.1 hj).1) i hj
    clear hbare
    rintro σ' _ ⟨S', hbr, hs', rfl⟩
    refine Cd.has hs' ?_
    clear hs'
    refine Cd.seq ?_
    refine Cd.region ?_
    refine Ol.p (fdl fd_api_Block_1) ?_
    refine Ol.p (ldp (k := 0 + 1) (vs := x.term.cells.toArray) ag_api_Term (i := 0) rfl rfl (fun j u hu => by rw [Nat.zero_add, Nat.add_comm]; simpa [RBlk.cells] using hu)) ?_
    refine Ol.x (sp_call en_ir_Needs (fun M w' hh => ir_Needs_ct (t := x.term))) ?_
    rintro _ _ ⟨_, rfl, A89, c89, rfl, rfl⟩
    refine Ol.p ass ?_
    refine Ol.nil ?_
    refine Cd.seq ?_
    refine Cd.region ?_
    refine Ol.p (fdl fd_api_Block_1) ?_
    refine Ol.p (ldp (k := 0 + 1) (vs := x.term.cells.toArray) ag_api_Term (i := 1) rfl rfl (fun j u hu => by rw [Nat.zero_add, Nat.add_comm]; simpa [RBlk.cells] using hu)) ?_
    refine Ol.x (sp_call en_ir_To (fun M w' hh => ir_To_ct (t := x.term))) ?_
    rintro _ _ ⟨_, rfl, A92, c92, rfl, rfl⟩
    refine Ol.p ass ?_
    refine Ol.nil ?_
    refine Cd.seq ?_
    refine Cd.mid (fun σ' L' => Has σ' [(1, .slice Aw way.length cw), (2, .pointer (some ⟨g2, 0, none⟩)), (5, .pointer (some ⟨g5, 0, none⟩)), (8, .int .i64 k), (14, .slice A92 (toL x.term).length c92), (103, .bool false)] ∧
      [row (.slice A92 (toL x.term).length c92) 3 1 (toL x.term).length (ints (toL x.term)), blk g5 (.cells (encV S') 47), blk g2 (.cells f.cells.toArray 43)] = L') ?_ ?_
    · cases hn0 : decide ((0 : Int) < ((needsL x.term).length : Int)) with
      | false =>
        refine Cd.region ?_
        refine Ol.p mvs ?_
        refine Ol.p (lens sl_L_int) ?_
        refine Ol.p gti ?_
        refine Ol.p mvb ?_
        refine Ol.gn hn0 ?_
        refine Ol.gn hn0 ?_
        refine Ol.gn hn0 ?_
        refine Ol.gn hn0 ?_
        refine Ol.gn hn0 ?_
        refine Ol.gn hn0 ?_
        refine Ol.p (pkFb hn0) ?_
        refine Ol.keep (.sub (.cons_cons _ (.cons _ (.cons _ (List.Sublist.refl _))))) ?_
        refine Ol.nil ?_
        exact ⟨⟨rfl, rfl, rfl, rfl, rfl, rfl, trivial⟩, rfl⟩
      | true =>
        have hnl0 : 0 < (needsL x.term).length := by
          simp only [decide_eq_true_eq] at hn0; omega
        obtain ⟨n, hn⟩ : ∃ n, (needsL x.term)[0]? = some n := ⟨_, List.getElem?_eq_getElem hnl0⟩
        have hnm := List.mem_of_getElem? hn
        have hnr := needsL_mem hnm
        obtain ⟨m, rfl⟩ : ∃ m : Nat, n = (m : Int) := ⟨n.toNat, by omega⟩
        have hSm : S' m = true := by
          cases hc : S' m with
          | true => rfl
          | false =>
            obtain ⟨h5, h6⟩ := hbr m hc
            refine absurd h5 ?_
            have := hsafe (m : Int) (exposed_end (fun i' hi' e => h6 i' hi' (by rw [e]; simp)) hnm)
            simpa using this
        refine Cd.region ?_
        refine Ol.p mvs ?_
        refine Ol.p (lens sl_L_int) ?_
        refine Ol.p gti ?_
        refine Ol.p mvb ?_
        refine Ol.gp hn0 mvs ?_
        refine Ol.gp hn0 (ixn1 (ix := 0) sl_L_int (Som.row (i := 1) rfl hnl0)) ?_
        refine Ol.gp hn0 (ld one_int (Rd.row (i := 1) rfl (ints_at hn))) ?_
        refine Ol.gp hn0 (ixl1 (ix := m) ar_A201_bool) ?_
        refine Ol.gp hn0 (ld one_bool (Rd.blk (i := 3) rfl (encV_get (i := m) (by omega)))) ?_
        refine Ol.gp hn0 noti ?_
        refine Ol.p (pkTb hn0) ?_
        refine Ol.keep (.sub (.cons_cons _ (.cons _ (.cons _ (List.Sublist.refl _))))) ?_
        refine Ol.nil ?_
        exact ⟨⟨rfl, rfl, rfl, rfl, rfl, by show Value.bool _ = _; rw [hSm]; rfl, trivial⟩, rfl⟩
    rintro σ' _ ⟨hs', rfl⟩
    refine Cd.has hs' ?_
    clear hs'
    refine Cd.cond rfl (fun h => by cases h) (fun h => ?_)
    refine Cd.skip ?_
    refine Cd.seq ?_
    refine Cd.seq ?_
    cases hz : decide (((toL x.term).length : Int) = 0) with
    | true =>
      refine Cd.region ?_
      refine Ol.p mvs ?_
      refine Ol.p (lens sl_L_int) ?_
      refine Ol.p eqi ?_
      refine Ol.p mvb ?_
      refine Ol.gn hz ?_
      refine Ol.gn hz ?_
      refine Ol.gn hz ?_
      refine Ol.gn hz ?_
      refine Ol.p (pkTb hz) ?_
      refine Ol.nil ?_
      refine Cd.cond rfl (fun h => ?_) (fun h => by cases h)
      refine Cd.seq ?_
      refine Cd.region ?_
      refine Ol.p asb ?_
      refine Ol.nil ?_
      exact Cd.ret ⟨.bool _, ret1 rfl rfl, [], .nil, rfl, rfl⟩
    | false =>
      refine Cd.region ?_
      refine Ol.p mvs ?_
      refine Ol.p (lens sl_L_int) ?_
      refine Ol.p eqi ?_
      refine Ol.p mvb ?_
      refine Ol.gp hz mvi ?_
      refine Ol.gp hz mvs ?_
      refine Ol.gp hz (lens sl_L_int) ?_
      refine Ol.gp hz eqi ?_
      refine Ol.p (pkFb hz) ?_
      refine Ol.nil ?_
      refine Cd.cond rfl (fun h => ?_) (fun h => ?_)
      · refine Cd.seq ?_
        refine Cd.region ?_
        refine Ol.p asb ?_
        refine Ol.nil ?_
        exact Cd.ret ⟨.bool _, ret1 rfl rfl, [], .nil, rfl, rfl⟩
      have hklt : k < way.length := by
        simp only [decide_eq_false_iff_not] at h; omega
      have hz0 : 0 < (toL x.term).length := by
        simp only [decide_eq_false_iff_not] at hz; omega
      obtain ⟨wv, hwv⟩ : ∃ wv, way[k]? = some wv := ⟨_, List.getElem?_eq_getElem hklt⟩
      obtain ⟨n, hn⟩ : ∃ n, (toL x.term)[pickF wv (toL x.term).length]? = some n := ⟨_, List.getElem?_eq_getElem (pickF_lt hz0)⟩
      have hnm := List.mem_of_getElem? hn
      have hnr := okEs_at hok (a := b) (n := n) (by rw [toAt_some (show f.terms[b]? = some x.term by simp [RFun.terms, hx])]; exact hnm)
      have htl : f.terms.length = f.blocks.length := by simp [RFun.terms]
      obtain ⟨nx, rfl⟩ : ∃ nx : Nat, n = (nx : Int) := ⟨n.toNat, by omega⟩
      have hg2 : decide ((nx : Int) < 1) = false := by rw [decide_eq_false_iff_not]; omega
      refine Cd.skip ?_
      refine Cd.seq ?_
      refine Cd.region ?_
      refine Ol.p mvs ?_
      refine Ol.p mvs ?_
      refine Ol.p mvi ?_
      refine Ol.p (ixn1 (ix := k) sl_L_int (Som.slc hw (by omega))) ?_
      refine Ol.p (ld one_int (Rd.slc hw (ints_at hwv))) ?_
      refine Ol.p mvs ?_
      refine Ol.p (lens sl_L_int) ?_
      refine Ol.s (cl en_kit_Pick (fun M w' hh => kit_Pick_ct (x := wv) (n := (toL x.term).length) hz0 (by omega))) ?_
      refine Ol.p (ixn1 (ix := pickF wv (toL x.term).length) sl_L_int (Som.row (i := 0) rfl hz0) (h := pickF_lt hz0)) ?_
      refine Ol.p (ld one_int (Rd.row (i := 0) rfl (ints_at hn))) ?_
      refine Ol.p asi ?_
      refine Ol.keep (.sub (.cons _ (List.Sublist.refl _))) ?_
      refine Ol.nil ?_
      refine Cd.seq ?_
      refine Cd.region ?_
      refine Ol.p mvi ?_
      refine Ol.p lsi ?_
      refine Ol.p mvb ?_
      refine Ol.gp hg2 mvi ?_
      refine Ol.gp hg2 (fdl fd_api_Func_1) ?_
      refine Ol.gp hg2 (ld one_L_api_Block (Rd.blk (i := 1) rfl rfl)) ?_
      refine Ol.gp hg2 (lens sl_L_api_Block) ?_
      refine Ol.gp hg2 gei ?_
      refine Ol.p (pkFb hg2) ?_
      refine Ol.nil ?_
      refine Cd.cond rfl (fun h => by simp only [decide_eq_true_eq] at h; omega) (fun h => ?_)
      refine Cd.skip ?_
      refine Cd.region ?_
      refine Ol.p mvi ?_
      refine Ol.p addi ?_
      refine Ol.p asi ?_
      refine Ol.nil ?_
      exact ⟨way.length - (k + 1), by omega, k + 1, nx, S', rfl, by omega, by omega, fun v hv => .step (hbr v hv).1 hx (hbr v hv).2 hnm, ⟨rfl, rfl, rfl, rfl, rfl, trivial⟩, rfl⟩
  rintro σ' L' _
  refine Cd.seq ?_
  refine Cd.region ?_
  refine Ol.p asb ?_
  refine Ol.nil ?_
  exact Cd.ret ⟨.bool _, ret1 rfl rfl, [], .nil, rfl, rfl⟩
end
end Go.Proofs.Ytcojedoejpcolaa

/- The law IrParts, walked. -/
namespace Go.Proofs.Ytcojedoejpcolaa
set_option linter.unusedVariables false
set_option linter.unusedSimpArgs false
open Go Go.RowKit
set_option maxRecDepth 100000
section
theorem kit_Apart3 {w0 : World} {B cL : Nat} {AL : Option Addr} {x y z : Li} {X Y Z : List Value} (hx : X.length = x.m ∧ x.n ≤ x.m ∧ x.n < 2 ^ 39) (hy : Y.length = y.m ∧ y.n ≤ y.m ∧ y.n < 2 ^ 39) (hz : Z.length = z.m ∧ z.n ≤ z.m ∧ z.n < 2 ^ 39) :
    Cm Try.prog 28 #[.slice AL 3 cL] w0 B [row (.slice AL 3 cL) 23 1 3 [.slice x.A x.n x.c, .slice y.A y.n y.c, .slice z.A z.n z.c], row (.slice x.A x.m x.c) 3 1 x.m X, row (.slice y.A y.m y.c) 3 1 y.m Y, row (.slice z.A z.m z.c) 3 1 z.m Z] (Is (.bool true)) := by
  have key : ∀ k, k < 3 → k = 0 ∨ k = 1 ∨ k = 2 := fun k hk => by omega
  refine kit_ApartInts_cm (N := 3) (it := fun k => if k = 0 then x else if k = 1 then y else z) (X0 := fun k => if k = 0 then X else if k = 1 then Y else Z) (by omega) ?_ ?_ ?_
  · intro k hk
    rcases key k hk with rfl | rfl | rfl
    · exact hx.1
    · exact hy.1
    · exact hz.1
  · intro k hk
    rcases key k hk with rfl | rfl | rfl
    · exact hx.2.1
    · exact hy.2.1
    · exact hz.2.1
  · intro k hk
    rcases key k hk with rfl | rfl | rfl
    · exact hx.2.2
    · exact hy.2.2
    · exact hz.2.2
set_option maxHeartbeats 2000000 in
theorem law03_IrParts_ct {w : World} {i : RIns} {t : Tm} (hi : InsAt w i) : Ct Try.prog 3 #[i.val, t.val] w (Is (.bool true)) := by
  have hil := hi.len
  refine Ct.mk Try.func3 rfl rfl ?_
  refine Cd.seq ?_
  refine Cd.region ?_
  refine Ol.x bxg ?_
  rintro _ _ ⟨g2, rfl, rfl⟩
  refine Ol.x bxg ?_
  rintro _ _ ⟨g3, rfl, rfl⟩
  refine Ol.p asb ?_
  refine Ol.nil ?_
  refine Cd.seq ?_
  refine Cd.seq ?_
  refine Cd.region ?_
  refine Ol.p (fdl fd_api_Ins_6) ?_
  refine Ol.p (ld (v := .slice i.aA i.args.length i.aC) one_L_int (Rd.blk (i := 1) (k := 6) rfl rfl)) ?_
  refine Ol.p (lens sl_L_int) ?_
  refine Ol.p gti ?_
  refine Ol.nil ?_
  refine Cd.cond rfl (fun h => ?_) (fun h => ?_)
  · skip
    refine Cd.seq ?_
    refine Cd.region ?_
    refine Ol.s (cl en_law03_awake (fun M w' hh => law03_awake_ct)) ?_
    refine Ol.p asb ?_
    refine Ol.nil ?_
    exact Cd.ret ⟨.bool true, ret1 rfl rfl, [], Keep.nil, rfl, rfl⟩
  have hlen : i.args.length ≤ 700 := by
    have h : decide ((700 : Int) < (i.args.length : Int)) = false := h
    have := of_decide_eq_false h
    omega
  refine Cd.skip ?_
  refine Cd.seq ?_
  refine Cd.region ?_
  refine Ol.p (fdl fd_api_Ins_6) ?_
  refine Ol.p (ld (v := .slice i.aA i.args.length i.aC) one_L_int (Rd.blk (i := 1) (k := 6) rfl rfl)) ?_
  refine Ol.x (sp_call en_kit_LentInts (fun M w' hh => kit_LentInts_ct (l := i.args) (hi.args.now hh) (by omega))) ?_
  rintro _ _ ⟨_, rfl, A', c', rfl, rfl⟩
  refine Ol.p ass ?_
  refine Ol.nil ?_
  refine Cd.capl (i := 0) (A := A') (n := i.args.length + 12) (c := c') rfl fun hcap => ?_
  refine Cd.seq ?_
  refine Cd.region ?_
  refine Ol.p (ldw (cs := i.cells.toArray) ag_api_Ins (i := 2) rfl rfl) ?_
  refine Ol.x (alc zr_api_Ins) ?_
  rintro _ _ ⟨g6, rfl, rfl⟩
  refine Ol.s (stw (vs := i.cells.toArray) sz_api_Ins rfl i.one (i := 0) rfl rfl) ?_
  refine Ol.nil ?_
  refine Cd.seq ?_
  refine Cd.region ?_
  refine Ol.p mvs ?_
  refine Ol.p (fdl fd_api_Ins_6) ?_
  refine Ol.s (sto (i := 0) (k := 6) (v := .slice A' i.args.length c') (.inr sz_L_int) rfl rfl rfl (by simp [RIns.cells]) rfl) ?_
  refine Ol.nil ?_
  obtain ⟨g, hg⟩ : ∃ g, g = i.at_ A' c' := ⟨_, rfl⟩
  show Cd _ _ _ _ [blk g6 (.cells (i.at_ A' c').cells.toArray 25), lInt A' c' i.args, blk g3 (.cells t.cells.toArray 29), blk g2 (.cells i.cells.toArray 25)]
  rw [← hg]
  have hga : g.aA = A' := by rw [hg]; rfl
  have hgl : g.args = i.args := by rw [hg]; rfl
  have e1 : isIns g = isIns i := by rw [hg]; rfl
  have e2 : readsL g = readsL i := by rw [hg]; rfl
  have e3 : defI g = defI i := by rw [hg]; rfl
  have hgcal : g.callee = i.callee := by rw [hg]; rfl
  have hlent : ∀ {M L : List Res} {w' : World} {j : Nat}, Hp w w.heap.size (M ++ L) w' → L[j]? = some (lInt A' c' i.args) → InsAt w' g := fun hh hj => ⟨by rw [hga, hgl]; exact (Reads.row hh hj).lentI, by rw [hgl]; exact hil, by rw [hgcal]; exact hi.callee⟩
  obtain ⟨bi, hbi⟩ : ∃ bi, bi = isIns i := ⟨_, rfl⟩
  obtain ⟨bt, hbt⟩ : ∃ bt, bt = isTerm t := ⟨_, rfl⟩
  obtain ⟨rl, hrl⟩ : ∃ rl, rl = readsL i := ⟨_, rfl⟩
  obtain ⟨nl, hnl⟩ : ∃ nl, nl = needsL t := ⟨_, rfl⟩
  obtain ⟨tl, htl⟩ : ∃ tl, tl = toL t := ⟨_, rfl⟩
  obtain ⟨df, hdf⟩ : ∃ df, df = defI i := ⟨_, rfl⟩
  have l1 : rl.length ≤ 10 := by rw [hrl]; exact readsL_len i
  have l2 : nl.length ≤ 1 := by rw [hnl]; unfold needsL; cases isTerm t && !decide (t.a = 0) <;> simp
  have l3 : tl.length ≤ 2 := by rw [htl]; exact toL_len t
  have c1 : ∀ w', InsAt w' g → Ct Try.prog 14 #[g.val] w' (NewL 3 1 rl.length (ints rl)) := fun w' h => by
    rw [hrl, ← e2]; exact ir_Reads_ct h
  have c2 : ∀ w', Ct Try.prog 15 #[t.val] w' (NewL 3 1 nl.length (ints nl)) := fun w' => by
    rw [hnl]; exact ir_Needs_ct
  have c3 : ∀ w', Ct Try.prog 16 #[t.val] w' (NewL 3 1 tl.length (ints tl)) := fun w' => by
    rw [htl]; exact ir_To_ct
  have c4 : ∀ w', InsAt w' g → Ct Try.prog 17 #[g.val] w' (Is (.bool bi)) := fun w' h => by
    rw [hbi, ← e1]; exact ir_IsIns_ct h
  have c5 : ∀ w', InsAt w' i → Ct Try.prog 18 #[i.val] w' (Is (.bool bi)) := fun w' h => by
    rw [hbi]; exact ref03_IsIns_ct h.args (by omega)
  have c6 : ∀ w', Ct Try.prog 19 #[t.val] w' (Is (.bool bt)) := fun w' => by
    rw [hbt]; exact ir_IsTerm_ct
  have c7 : ∀ w', Ct Try.prog 20 #[t.val] w' (Is (.bool bt)) := fun w' => by
    rw [hbt]; exact ref03_IsTerm_ct
  have c8 : ∀ w', InsAt w' i → Ct Try.prog 22 #[i.val] w' (NewL 3 1 rl.length (ints rl)) := fun w' h => by
    rw [hrl]; exact ref03_Reads_ct h.args (by omega)
  have c9 : ∀ w', InsAt w' g → Ct Try.prog 23 #[g.val] w' (Is (.int .i64 df)) := fun w' h => by
    rw [hdf, ← e3]; exact ir_Defines_ct h
  have c10 : ∀ w', InsAt w' i → Ct Try.prog 24 #[i.val] w' (Is (.int .i64 df)) := fun w' h => by
    rw [hdf]; exact ref03_Defines_ct h.args (by omega)
  have c11 : ∀ w', Ct Try.prog 25 #[t.val] w' (NewL 3 1 nl.length (ints nl)) := fun w' => by
    rw [hnl]; exact ref03_Needs_ct
  have c12 : ∀ w', Ct Try.prog 26 #[t.val] w' (NewL 3 1 tl.length (ints tl)) := fun w' => by
    rw [htl]; exact ref03_To_ct
  refine Cd.seq ?_
  refine Cd.draw mixed 9 (fun opNo => match opNo with | 1 => some (NewL 3 1 rl.length (ints rl)) | 3 => some (NewL 3 1 nl.length (ints nl)) | 5 => some (NewL 3 1 tl.length (ints tl)) | _ => none) (fun _ => []) (by kernel_rfl) (by intro q V h; split at h <;> cases h; exact ⟨_, _, none, 0, rfl, rfl⟩; exact ⟨_, _, none, 0, rfl, rfl⟩; exact ⟨_, _, none, 0, rfl, rfl⟩) (fun u hu => ?_)
  refine Wk.p (ldw (cs := g.cells.toArray) ag_api_Ins (i := 0) rfl rfl) ?_
  refine Wk.x (V := NewL 3 1 rl.length (ints rl)) hu (sp_call (vs := [g.val]) en_ir_Reads (fun M w' hh => c1 w' (hlent (j := 1) hh rfl))) ?_
  rintro _ _ hu1 ⟨A24, c24, rfl, rfl⟩
  refine Wk.p (ldw (cs := t.cells.toArray) ag_api_Term (i := 2) rfl rfl) ?_
  refine Wk.x (V := NewL 3 1 nl.length (ints nl)) hu (sp_call (vs := [t.val]) en_ir_Needs (fun M w' hh => c2 w')) ?_
  rintro _ _ hu3 ⟨A26, c26, rfl, rfl⟩
  refine Wk.p (ldw (cs := t.cells.toArray) ag_api_Term (i := 2) rfl rfl) ?_
  refine Wk.x (V := NewL 3 1 tl.length (ints tl)) hu (sp_call (vs := [t.val]) en_ir_To (fun M w' hh => c3 w')) ?_
  rintro _ _ hu5 ⟨A28, c28, rfl, rfl⟩
  refine Wk.p ass ?_
  refine Wk.p ass ?_
  refine Wk.p ass ?_
  refine Wk.nil ?_
  rw [needs_cons hu5, needs_cons hu3, needs_cons hu1, needs_none]
  refine Ol.nil ?_
  refine Cd.seq ?_
  refine Cd.region ?_
  refine Ol.p (ldw (cs := g.cells.toArray) ag_api_Ins (i := 3) rfl rfl) ?_
  refine Ol.x (sp_call (vs := [g.val]) en_ir_Reads (fun M w' hh => c1 w' (hlent (j := 4) hh rfl))) ?_
  rintro _ _ ⟨_, rfl, A30, c30, rfl, rfl⟩
  refine Ol.p ass ?_
  refine Ol.nil ?_
  have q5 : (bi == bi) = true := by simp
  have q10 : (bt == bt) = true := by simp
  have q16 : decide (rl = rl) = true := by simp
  have q23 : decide (df = df) = true := by simp
  have q29 : decide (nl = nl) = true := by simp
  have q36 : decide (tl = tl) = true := by simp
  refine Cd.seq ?_
  refine Cd.draw mixed 38 (fun opNo => match opNo with | 1 => some (Is (.bool bi)) | 3 => some (Is (.bool bi)) | 7 => some (Is (.bool bt)) | 9 => some (Is (.bool bt)) | 15 => some (NewL 3 1 rl.length (ints rl)) | 16 => some (Is (.bool (decide (rl = rl)))) | 20 => some (Is (.int .i64 df)) | 22 => some (Is (.int .i64 df)) | 28 => some (NewL 3 1 nl.length (ints nl)) | 29 => some (Is (.bool (decide (nl = nl)))) | 34 => some (NewL 3 1 tl.length (ints tl)) | 35 => some (Is (.bool (decide (tl = tl)))) | _ => none) (fun opNo => match opNo with | 16 => [15] | 29 => [28] | 35 => [34] | _ => []) (by kernel_rfl) (by intro q V h; split at h <;> cases h; exact ⟨_, [], rfl, rfl⟩; exact ⟨_, [], rfl, rfl⟩; exact ⟨_, [], rfl, rfl⟩; exact ⟨_, [], rfl, rfl⟩; exact ⟨_, _, none, 0, rfl, rfl⟩; exact ⟨_, [], rfl, rfl⟩; exact ⟨_, [], rfl, rfl⟩; exact ⟨_, [], rfl, rfl⟩; exact ⟨_, _, none, 0, rfl, rfl⟩; exact ⟨_, [], rfl, rfl⟩; exact ⟨_, _, none, 0, rfl, rfl⟩; exact ⟨_, [], rfl, rfl⟩) (fun u hu => ?_)
  refine Wk.p (ldw (cs := g.cells.toArray) ag_api_Ins (i := 4) rfl rfl) ?_
  refine Wk.x (V := Is (.bool bi)) hu (sp_call (vs := [g.val]) en_ir_IsIns (fun M w' hh => c4 w' (hlent (j := 5) hh rfl))) ?_
  rintro _ _ hu1 ⟨rfl, rfl⟩
  refine Wk.p (ldw (cs := i.cells.toArray) ag_api_Ins (i := 7) rfl rfl) ?_
  refine Wk.x (V := Is (.bool bi)) hu (sp_call (vs := [i.val]) en_ref03_IsIns (fun M w' hh => c5 w' (hi.now hh))) ?_
  rintro _ _ hu3 ⟨rfl, rfl⟩
  refine Wk.p (eqb bo_bool) ?_
  refine Wk.p mvb ?_
  refine Wk.gp q5 (ldw (cs := t.cells.toArray) ag_api_Term (i := 6) rfl rfl) ?_
  refine Wk.gx (V := Is (.bool bt)) hu q5 (sp_call (vs := [t.val]) en_ir_IsTerm (fun M w' hh => c6 w')) ?_
  rintro _ _ hu7 ⟨rfl, rfl⟩
  refine Wk.gp q5 (ldw (cs := t.cells.toArray) ag_api_Term (i := 6) rfl rfl) ?_
  refine Wk.gx (V := Is (.bool bt)) hu q5 (sp_call (vs := [t.val]) en_ref03_IsTerm (fun M w' hh => c7 w')) ?_
  rintro _ _ hu9 ⟨rfl, rfl⟩
  refine Wk.gp q5 (eqb bo_bool) ?_
  refine Wk.p (pkTb q5) ?_
  refine Wk.p mvb ?_
  refine Wk.gp q10 mvs ?_
  refine Wk.gp q10 (ldw (cs := i.cells.toArray) ag_api_Ins (i := 7) rfl rfl) ?_
  refine Wk.gx (V := NewL 3 1 rl.length (ints rl)) hu q10 (sp_call (vs := [i.val]) en_ref03_Reads (fun M w' hh => c8 w' (hi.now hh))) ?_
  rintro _ _ hu15 ⟨A46, c46, rfl, rfl⟩
  refine Wk.gxn (V := Is (.bool (decide (rl = rl)))) hu q10 (l := [15]) rfl (by simp) (by rw [needs_cons hu15, needs_none]; exact (sp_call en_kit_SameInts (fun M w' hh => kit_SameInts_ct (a := rl) (b := rl) (Reads.row hh (i := 4) rfl) (Reads.row hh (i := 0) rfl) (by omega) (by omega)))) ?_
  rintro _ _ hu16 ⟨rfl, rfl⟩
  refine Wk.p (pkTb q10) ?_
  refine Wk.p mvb ?_
  refine Wk.gp q16 (ldw (cs := g.cells.toArray) ag_api_Ins (i := 4) rfl rfl) ?_
  refine Wk.gx (V := Is (.int .i64 df)) hu q16 (sp_call (vs := [g.val]) en_ir_Defines (fun M w' hh => c9 w' (hlent (j := 5) hh rfl))) ?_
  rintro _ _ hu20 ⟨rfl, rfl⟩
  refine Wk.gp q16 (ldw (cs := i.cells.toArray) ag_api_Ins (i := 7) rfl rfl) ?_
  refine Wk.gx (V := Is (.int .i64 df)) hu q16 (sp_call (vs := [i.val]) en_ref03_Defines (fun M w' hh => c10 w' (hi.now hh))) ?_
  rintro _ _ hu22 ⟨rfl, rfl⟩
  refine Wk.gp q16 eqi ?_
  refine Wk.p (pkTb q16) ?_
  refine Wk.p mvb ?_
  refine Wk.gp q23 mvs ?_
  refine Wk.gp q23 (ldw (cs := t.cells.toArray) ag_api_Term (i := 6) rfl rfl) ?_
  refine Wk.gx (V := NewL 3 1 nl.length (ints nl)) hu q23 (sp_call (vs := [t.val]) en_ref03_Needs (fun M w' hh => c11 w')) ?_
  rintro _ _ hu28 ⟨A59, c59, rfl, rfl⟩
  refine Wk.gxn (V := Is (.bool (decide (nl = nl)))) hu q23 (l := [28]) rfl (by simp) (by rw [needs_cons hu28, needs_none]; exact (sp_call en_kit_SameInts (fun M w' hh => kit_SameInts_ct (a := nl) (b := nl) (Reads.row hh (i := 3) rfl) (Reads.row hh (i := 0) rfl) (by omega) (by omega)))) ?_
  rintro _ _ hu29 ⟨rfl, rfl⟩
  refine Wk.p (pkTb q23) ?_
  refine Wk.p mvb ?_
  refine Wk.gp q29 mvs ?_
  refine Wk.gp q29 (ldw (cs := t.cells.toArray) ag_api_Term (i := 6) rfl rfl) ?_
  refine Wk.gx (V := NewL 3 1 tl.length (ints tl)) hu q29 (sp_call (vs := [t.val]) en_ref03_To (fun M w' hh => c12 w')) ?_
  rintro _ _ hu34 ⟨A65, c65, rfl, rfl⟩
  refine Wk.gxn (V := Is (.bool (decide (tl = tl)))) hu q29 (l := [34]) rfl (by simp) (by rw [needs_cons hu34, needs_none]; exact (sp_call en_kit_SameInts (fun M w' hh => kit_SameInts_ct (a := tl) (b := tl) (Reads.row hh (i := 2) rfl) (Reads.row hh (i := 0) rfl) (by omega) (by omega)))) ?_
  rintro _ _ hu35 ⟨rfl, rfl⟩
  refine Wk.p (pkTb q29) ?_
  refine Wk.p asb ?_
  refine Wk.nil ?_
  rw [needs_cons hu35, needs_cons hu34, needs_cons hu29, needs_cons hu28, needs_cons hu22, needs_cons hu20, needs_cons hu16, needs_cons hu15, needs_cons hu9, needs_cons hu7, needs_cons hu3, needs_cons hu1, needs_none]
  refine Ol.nil ?_
  refine Cd.seq ?_
  refine Cd.region ?_
  refine Ol.p mvb ?_
  refine Ol.p mvb ?_
  refine Ol.gp q36 mvs ?_
  refine Ol.gp q36 (fdl fd_api_Ins_6) ?_
  refine Ol.gp q36 (ld (v := .slice i.aA i.args.length i.aC) one_L_int (Rd.blk (i := 10) (k := 6) rfl rfl)) ?_
  refine Ol.gs q36 (cl en_kit_KeptInts (fun M w' hh => kit_KeptInts_ct (l := i.args) (Reads.row hh (i := 8) rfl) hcap (hi.args.now hh) (by omega))) ?_
  refine Ol.p (pkTb q36) ?_
  refine Ol.p mvb ?_
  refine Ol.gp rfl mvs ?_
  refine Ol.gp rfl mvs ?_
  refine Ol.gp rfl mvs ?_
  refine Ol.gx rfl (bsv [.slice A24 rl.length c24, .slice A30 rl.length c30, .slice A' i.args.length c'] sl_L_L_int zr_L_int (by simp [Value.cells])) ?_
  rintro _ _ ⟨g79, rfl, rfl⟩
  refine Ol.gx rfl (sp_callm (vs := [.slice (some ⟨g79, 0, none⟩) 3 3]) (Lin := [row (.slice (some ⟨g79, 0, none⟩) 3 3) 23 1 3 [.slice A24 rl.length c24, .slice A30 rl.length c30, .slice A' i.args.length c'], row (.slice A24 rl.length c24) 3 1 rl.length (ints rl), row (.slice A30 rl.length c30) 3 1 rl.length (ints rl), lInt A' c' i.args]) (L2 := [row (.slice A65 tl.length c65) 3 1 tl.length (ints tl), row (.slice A59 nl.length c59) 3 1 nl.length (ints nl), row (.slice A46 rl.length c46) 3 1 rl.length (ints rl), row (.slice A28 tl.length c28) 3 1 tl.length (ints tl), row (.slice A26 nl.length c26) 3 1 nl.length (ints nl), blk g6 (.cells g.cells.toArray 25), blk g3 (.cells t.cells.toArray 29), blk g2 (.cells i.cells.toArray 25)]) en_kit_ApartInts (perm_count fun _ x => by simp only [List.set_cons_succ, List.set_cons_zero, List.count_append, List.count_cons, List.count_nil, List.cons_append, List.nil_append]; omega) (kit_Apart3 (x := ⟨A24, rl.length, rl.length, c24⟩) (y := ⟨A30, rl.length, rl.length, c30⟩) (z := ⟨A', i.args.length, i.args.length + 12, c'⟩) ⟨by simp [ints], Nat.le_refl _, by show rl.length < 2 ^ 39; omega⟩ ⟨by simp [ints], Nat.le_refl _, by show rl.length < 2 ^ 39; omega⟩ ⟨by simp [ints, mkL], by show i.args.length ≤ i.args.length + 12; omega, by show i.args.length < 2 ^ 39; omega⟩)) ?_
  rintro _ _ ⟨_, rfl, rfl, rfl⟩
  refine Ol.p (pkTb rfl) ?_
  refine Ol.p mvb ?_
  refine Ol.gs rfl (cl en_law03_awake (fun M w' hh => law03_awake_ct)) ?_
  refine Ol.p (pkTb rfl) ?_
  refine Ol.p asb ?_
  refine Ol.nil ?_
  exact Cd.ret ⟨.bool true, ret1 rfl rfl, [], Keep.nil, rfl, rfl⟩
end
end Go.Proofs.Ytcojedoejpcolaa

/- Lists of structs that came in, opened. -/
namespace Go.Proofs.Ytcojedoejpcolaa
set_option linter.unusedVariables false
open Go Go.ChangeShapes Go.WideShapes Go.ChangeAt Go.RowKit
set_option maxRecDepth 100000

section
variable {H : Type} {enc : TypeId × Value → H} {P : Program} {w : World}
/-- What came in is not endless. -/
def Lean_ (P : Program) (t : TypeId) (d : DataW H) : Prop := ∀ n ∈ d.weights P t, n ≤ reachBytes
theorem weightsAll_mem {P : Program} {e : TypeId} {d : DataW H} {n : Nat} (hn : n ∈ d.weights P e) : ∀ {l : List (DataW H)}, d ∈ l → n ∈ DataW.weightsAll P e l
  | x :: l, h => by
    simp only [DataW.weightsAll, List.mem_append]
    rcases List.mem_cons.1 h with rfl | h
    · exact .inl hn
    · exact .inr (weightsAll_mem hn h)
theorem lean_slice {t e : TypeId} {a b : List (DataW H)} (ht : P.underlying t = some (.slice e)) (h : Lean_ P t (.slice a b)) : (a.length + b.length) * P.bytesOf e ≤ reachBytes ∧ ∀ d ∈ a, Lean_ P e d := by
  unfold Lean_ at h
  simp only [DataW.weights, ht, List.mem_cons, List.mem_append] at h
  exact ⟨h _ (.inl rfl), fun d hd n hn => h n (.inr (.inl (weightsAll_mem hn hd)))⟩
theorem open_list {α : Type} {cf : α → List Value} {Good : α → Prop} {t e : TypeId} {c fuel : Nat} {cs : List Value} {x : DataW H × List MemPlace} (ht : P.underlying t = some (.slice e)) (hc : P.cellsOf e = c) (hc0 : 0 < c) (hby : 0 < P.bytesOf e)
    (hcf : ∀ a, (cf a).length = c)
    (hel : ∀ n cs y, DataW.trod enc P w 0 (fun _ => true) true n e cs = some y → Lean_ P e y.1 → ∃ a : α, cs = cf a ∧ Good a)
    (h : DataW.trod enc P w 0 (fun _ => true) true fuel t cs = some x) (hw : Lean_ P t x.1) :
    ∃ (A : Option Addr) (cp : Nat) (l : List α), cs = [.slice A l.length cp] ∧ l.length ≤ cp ∧ Reads w w.heap.size c A l.length (l.flatMap cf) ∧ (∀ a ∈ l, Good a) ∧ l.length < 2 ^ 50 := by
  rcases Go.Deep.open_slice ht h with ⟨rfl, rfl⟩ | ⟨a, len, cap, m, n, D, Pl, rfl, _, hl, _, hm, rfl, hx⟩
  · exact ⟨none, 0, [], rfl, Nat.le_refl _, ⟨by simp, fun h => absurd h (by simp)⟩, by simp, by simp⟩
  · have hm : m = cap := by simpa using hm
    subst hm
    obtain ⟨hsz, hws⟩ := lean_slice ht hw
    have hsz : len < 2 ^ 50 := by
      simp only [List.length_map, List.length_range] at hsz
      have : reachBytes < 2 ^ 47 := reachBytes_lt
      have h2 : len + (m - len) ≤ (len + (m - len)) * P.bytesOf e := Nat.le_mul_of_pos_right _ hby
      omega
    have hex : ∀ i, i < len → ∃ v : α, Good v ∧ w.cells? 0 (a.add (i * c)) c = some (cf v) := fun i hi => by
      obtain ⟨cs', h1, h2⟩ := hx i (by omega)
      obtain ⟨v, rfl, hg⟩ := hel n cs' _ h2 (hws _ (List.mem_map.2 ⟨i, by simpa using hi, rfl⟩))
      rw [hc] at h1
      exact ⟨v, hg, h1⟩
    have hL : ∃ l : List α, l.length = len ∧ ∀ i v, l[i]? = some v → Good v ∧ w.cells? 0 (a.add (i * c)) c = some (cf v) := by
      clear hws hx hw h hm
      have : ∀ k, k ≤ len → ∃ l : List α, l.length = k ∧ ∀ i v, l[i]? = some v → Good v ∧ w.cells? 0 (a.add (i * c)) c = some (cf v) := by
        intro k
        induction k with
        | zero => exact fun _ => ⟨[], rfl, fun i v h => by simp at h⟩
        | succ k ih =>
          intro hk
          obtain ⟨l, h1, h2⟩ := ih (by omega)
          obtain ⟨v, hv⟩ := hex k (by omega)
          refine ⟨l ++ [v], by simp [h1], fun i u hu => ?_⟩
          rw [List.getElem?_append] at hu
          split at hu
          · exact h2 i u hu
          · rename_i hlt
            have hi : i - l.length = 0 := by
              have := (List.getElem?_eq_some_iff.1 hu).1
              simp at this; omega
            rw [hi] at hu
            simp at hu
            subst hu
            have : i = k := by omega
            rw [this]; exact hv
      exact this len (Nat.le_refl _)
    obtain ⟨l, hll, hg⟩ := hL
    have hcell : ∀ i v j, l[i]? = some v → j < c → w.cell? (a.add (i * c + j)) = (cf v)[j]? := fun i v j hv hj => by
      have := (World.cells?_some (hg i v hv).2).2.2 j hj
      rw [Go.Deep.add_add] at this
      exact this
    refine ⟨some a, m, l, by rw [hll], by omega, ⟨by rw [flat_len hcf], fun hn => ⟨a, rfl, ?_, fun j u hu => ?_⟩⟩, fun v hv => ?_, by omega⟩
    · obtain ⟨v, hv⟩ : ∃ v, l[0]? = some v := ⟨_, List.getElem?_eq_getElem hn⟩
      have h0 := hcell 0 v 0 hv hc0
      have : (cf v)[0]? = some ((cf v)[0]'(by rw [hcf]; exact hc0)) := List.getElem?_eq_getElem _
      rw [this] at h0
      have := World.block_lt_of_cell? w _ h0
      simpa [Addr.add] using this
    · have hjl : j < l.length * c := by
        have := (List.getElem?_eq_some_iff.1 hu).1
        rwa [flat_len hcf] at this
      have hd : j / c < l.length := Nat.div_lt_of_lt_mul (by rw [Nat.mul_comm]; exact hjl)
      have hr : j % c < c := Nat.mod_lt _ hc0
      have hj : j = j / c * c + j % c := by rw [Nat.mul_comm]; exact (Nat.div_add_mod j c).symm
      have hv : l[j / c]? = some l[j / c] := List.getElem?_eq_getElem hd
      rw [hj, flat_get hcf _ _ _ _ hv hr] at hu
      rw [hj, hcell _ _ _ hv hr]
      exact hu
    · obtain ⟨i, hi⟩ := List.mem_iff_getElem?.1 hv
      exact (hg i v hi).1
end
end Go.Proofs.Ytcojedoejpcolaa

/- A function of the program's that came in, opened. -/
namespace Go.Proofs.Ytcojedoejpcolaa
set_option linter.unusedVariables false
open Go Go.ChangeShapes Go.WideShapes Go.ChangeAt Go.RowKit
set_option maxRecDepth 100000

theorem lean_struct {H : Type} {P : Program} {t u : TypeId} {fs : Array Field} {parts : List (DataW H)} {d : DataW H} {j : Nat} (ht : P.underlying t = some (.struct fs)) (h : Lean_ P t (.agg parts)) (hu : (fs.toList.map (·.type))[j]? = some u) (hd : parts[j]? = some d) : Lean_ P u d := by
  unfold Lean_ at h ⊢
  simp only [DataW.weights, ht] at h
  exact fun n hn => h n (DataW.weights_mem_each hu hd n hn)
theorem list8 {α : Type} {l : List α} (h : l.length = 8) : ∃ a b c d e f g i, l = [a, b, c, d, e, f, g, i] := by
  match l, h with
  | [a, b, c, d, e, f, g, i], _ => exact ⟨a, b, c, d, e, f, g, i, rfl⟩
theorem i64_wf {n : Int} (h : (Lit.int .i64 n).wf = true) : -9223372036854775808 ≤ n ∧ n ≤ 9223372036854775807 := by
  have := i64_of_wf h
  unfold I64 at this; omega
theorem lean_each {H : Type} {P : Program} {ts : List TypeId} {ds : List (DataW H)} (h : (DataW.weightsEach P ts ds).all (· ≤ reachBytes) = true) {j : Nat} {t : TypeId} {d : DataW H} (ht : ts[j]? = some t) (hd : ds[j]? = some d) : Lean_ P t d := fun n hn => by
  simpa using List.all_eq_true.1 h n (DataW.weights_mem_each ht hd n hn)
section
theorem cells_Ins : Try.prog.cellsOf 25 = 8 := by kernel_rfl
theorem cells_Op : Try.prog.cellsOf 22 = 1 := by kernel_rfl
theorem cells_Lint : Try.prog.cellsOf 23 = 1 := by kernel_rfl
def IR (n : Int) : Prop := -9223372036854775808 ≤ n ∧ n ≤ 9223372036854775807
def GoodI (W : World) (i : RIns) : Prop := (∀ n ∈ [i.op, i.dst, i.a, i.b, i.imm, i.callee, i.many], IR n) ∧ i.args.length < 2 ^ 50 ∧ i.args.length ≤ i.aC ∧ (∀ n ∈ i.args, IR n) ∧ Reads W W.heap.size 1 i.aA i.args.length (ints i.args)
theorem flat_ints : ∀ l : List Int, l.flatMap (fun n : Int => [Value.int .i64 n]) = ints l
  | [] => rfl
  | a :: l => by rw [List.flatMap_cons, flat_ints l]; rfl
section
variable {H : Type} {enc : TypeId × Value → H} {W : World}
theorem open_intl {n : Nat} {cs : List Value} {y : DataW H × List MemPlace} (h : DataW.trod enc Try.prog W 0 (fun _ => true) true n 23 cs = some y) (hw : Lean_ Try.prog 23 y.1) :
    ∃ (A : Option Addr) (cp : Nat) (l : List Int), cs = [.slice A l.length cp] ∧ l.length ≤ cp ∧ Reads W W.heap.size 1 A l.length (ints l) ∧ (∀ a ∈ l, IR a) ∧ l.length < 2 ^ 50 := by
  obtain ⟨A, cp, l, h1, h2, h3, h4, h5⟩ := open_list (cf := fun n : Int => [.int .i64 n]) (Good := IR) Try.underlying23 cells_int (by decide) (by rw [bytes_int]; decide) (fun _ => rfl) (fun n cs y h _ => by
    obtain ⟨z, rfl, rfl, hw⟩ := DataW.trod_int Try.underlying3 h
    exact ⟨z, rfl, i64_wf hw⟩) h hw
  refine ⟨A, cp, l, h1, h2, ?_, h4, h5⟩
  rw [flat_ints] at h3
  exact h3
theorem open_ins {n : Nat} {cs : List Value} {y : DataW H × List MemPlace} (h : DataW.trod enc Try.prog W 0 (fun _ => true) true n 25 cs = some y) (hw : Lean_ Try.prog 25 y.1) : ∃ i : RIns, cs = i.cells ∧ GoodI W i := by
  obtain ⟨xs, m, _, rfl, hl, hlen, hf⟩ := DataW.trod_struct Try.underlying25 h
  simp only [List.size_toArray, List.length_cons, List.length_nil] at hlen
  obtain ⟨y0, y1, y2, y3, y4, y5, y6, y7, rfl⟩ := list8 hlen
  have hl8 : cs.length = 8 := hl.trans cells_Ins
  obtain ⟨c0, c1, c2, c3, c4, c5, c6, c7, rfl⟩ := list8 hl8
  have f0 : DataW.trod enc Try.prog W 0 (fun _ => true) true m 22 [c0] = some y0 := by
    have q := hf 0 _ rfl
    change DataW.trod enc Try.prog W 0 (fun _ => true) true m 22 (List.take (Try.prog.cellsOf 22) (List.drop 0 [c0, c1, c2, c3, c4, c5, c6, c7])) = some y0 at q
    rw [cells_Op] at q
    exact q
  have f1 : DataW.trod enc Try.prog W 0 (fun _ => true) true m 3 [c1] = some y1 := by
    have q := hf 1 _ rfl
    change DataW.trod enc Try.prog W 0 (fun _ => true) true m 3 (List.take (Try.prog.cellsOf 3) (List.drop 1 [c0, c1, c2, c3, c4, c5, c6, c7])) = some y1 at q
    rw [cells_int] at q
    exact q
  have f2 : DataW.trod enc Try.prog W 0 (fun _ => true) true m 3 [c2] = some y2 := by
    have q := hf 2 _ rfl
    change DataW.trod enc Try.prog W 0 (fun _ => true) true m 3 (List.take (Try.prog.cellsOf 3) (List.drop 2 [c0, c1, c2, c3, c4, c5, c6, c7])) = some y2 at q
    rw [cells_int] at q
    exact q
  have f3 : DataW.trod enc Try.prog W 0 (fun _ => true) true m 3 [c3] = some y3 := by
    have q := hf 3 _ rfl
    change DataW.trod enc Try.prog W 0 (fun _ => true) true m 3 (List.take (Try.prog.cellsOf 3) (List.drop 3 [c0, c1, c2, c3, c4, c5, c6, c7])) = some y3 at q
    rw [cells_int] at q
    exact q
  have f4 : DataW.trod enc Try.prog W 0 (fun _ => true) true m 3 [c4] = some y4 := by
    have q := hf 4 _ rfl
    change DataW.trod enc Try.prog W 0 (fun _ => true) true m 3 (List.take (Try.prog.cellsOf 3) (List.drop 4 [c0, c1, c2, c3, c4, c5, c6, c7])) = some y4 at q
    rw [cells_int] at q
    exact q
  have f5 : DataW.trod enc Try.prog W 0 (fun _ => true) true m 3 [c5] = some y5 := by
    have q := hf 5 _ rfl
    change DataW.trod enc Try.prog W 0 (fun _ => true) true m 3 (List.take (Try.prog.cellsOf 3) (List.drop 5 [c0, c1, c2, c3, c4, c5, c6, c7])) = some y5 at q
    rw [cells_int] at q
    exact q
  have f6 : DataW.trod enc Try.prog W 0 (fun _ => true) true m 23 [c6] = some y6 := by
    have q := hf 6 _ rfl
    change DataW.trod enc Try.prog W 0 (fun _ => true) true m 23 (List.take (Try.prog.cellsOf 23) (List.drop 6 [c0, c1, c2, c3, c4, c5, c6, c7])) = some y6 at q
    rw [cells_Lint] at q
    exact q
  have f7 : DataW.trod enc Try.prog W 0 (fun _ => true) true m 3 [c7] = some y7 := by
    have q := hf 7 _ rfl
    change DataW.trod enc Try.prog W 0 (fun _ => true) true m 3 (List.take (Try.prog.cellsOf 3) (List.drop 7 [c0, c1, c2, c3, c4, c5, c6, c7])) = some y7 at q
    rw [cells_int] at q
    exact q
  obtain ⟨z0, e0, _, w0⟩ := DataW.trod_int Try.underlying22 f0
  obtain ⟨z1, e1, _, w1⟩ := DataW.trod_int Try.underlying3 f1
  obtain ⟨z2, e2, _, w2⟩ := DataW.trod_int Try.underlying3 f2
  obtain ⟨z3, e3, _, w3⟩ := DataW.trod_int Try.underlying3 f3
  obtain ⟨z4, e4, _, w4⟩ := DataW.trod_int Try.underlying3 f4
  obtain ⟨z5, e5, _, w5⟩ := DataW.trod_int Try.underlying3 f5
  obtain ⟨z7, e7, _, w7⟩ := DataW.trod_int Try.underlying3 f7
  obtain ⟨A, cp, l, e6, h2, h3, h4, h5⟩ := open_intl f6 (lean_struct Try.underlying25 (parts := [y0.1, y1.1, y2.1, y3.1, y4.1, y5.1, y6.1, y7.1]) hw (j := 6) rfl rfl)
  simp only [List.cons.injEq, and_true] at e0 e1 e2 e3 e4 e5 e6 e7
  subst e0 e1 e2 e3 e4 e5 e6 e7
  refine ⟨⟨z0, z1, z2, z3, z4, z5, A, cp, l, z7⟩, rfl, ?_, h5, h2, h4, h3⟩
  intro n hn
  simp only [List.mem_cons, List.not_mem_nil, or_false] at hn
  rcases hn with rfl | rfl | rfl | rfl | rfl | rfl | rfl
  all_goals exact i64_wf (by assumption)
theorem list4 {α : Type} {l : List α} (h : l.length = 4) : ∃ a b c d, l = [a, b, c, d] := by
  match l, h with
  | [a, b, c, d], _ => exact ⟨a, b, c, d, rfl⟩
theorem list5 {α : Type} {l : List α} (h : l.length = 5) : ∃ a b c d e, l = [a, b, c, d, e] := by
  match l, h with
  | [a, b, c, d, e], _ => exact ⟨a, b, c, d, e, rfl⟩
theorem list3 {α : Type} {l : List α} (h : l.length = 3) : ∃ a b c, l = [a, b, c] := by
  match l, h with
  | [a, b, c], _ => exact ⟨a, b, c, rfl⟩
theorem list2 {α : Type} {l : List α} (h : l.length = 2) : ∃ a b, l = [a, b] := by
  match l, h with
  | [a, b], _ => exact ⟨a, b, rfl⟩
theorem cells_Term : Try.prog.cellsOf 29 = 4 := by kernel_rfl
theorem cells_Kind : Try.prog.cellsOf 26 = 1 := by kernel_rfl
theorem cells_A2 : Try.prog.cellsOf 27 = 2 := by kernel_rfl
theorem cells_Block : Try.prog.cellsOf 50 = 5 := by kernel_rfl
theorem cells_Func : Try.prog.cellsOf 43 = 2 := by kernel_rfl
theorem cells_LIns : Try.prog.cellsOf 48 = 1 := by kernel_rfl
theorem cells_LBlk : Try.prog.cellsOf 41 = 1 := by kernel_rfl
theorem open_term {n : Nat} {cs : List Value} {y : DataW H × List MemPlace} (h : DataW.trod enc Try.prog W 0 (fun _ => true) true n 29 cs = some y) : ∃ t : Tm, cs = t.cells ∧ ∀ n ∈ [t.kind, t.a, t.t0, t.t1], IR n := by
  obtain ⟨xs, m, _, rfl, hl, hlen, hf⟩ := DataW.trod_struct Try.underlying29 h
  simp only [List.size_toArray, List.length_cons, List.length_nil] at hlen
  obtain ⟨y0, y1, y2, rfl⟩ := list3 hlen
  have hl4 : cs.length = 4 := hl.trans cells_Term
  obtain ⟨c0, c1, c2, c3, rfl⟩ := list4 hl4
  have f0 : DataW.trod enc Try.prog W 0 (fun _ => true) true m 26 [c0] = some y0 := by
    have q := hf 0 _ rfl
    change DataW.trod enc Try.prog W 0 (fun _ => true) true m 26 (List.take (Try.prog.cellsOf 26) (List.drop 0 [c0, c1, c2, c3])) = some y0 at q
    rw [cells_Kind] at q
    exact q
  have f1 : DataW.trod enc Try.prog W 0 (fun _ => true) true m 3 [c1] = some y1 := by
    have q := hf 1 _ rfl
    change DataW.trod enc Try.prog W 0 (fun _ => true) true m 3 (List.take (Try.prog.cellsOf 3) (List.drop 1 [c0, c1, c2, c3])) = some y1 at q
    rw [cells_int] at q
    exact q
  have f2 : DataW.trod enc Try.prog W 0 (fun _ => true) true m 27 [c2, c3] = some y2 := by
    have q := hf 2 _ rfl
    change DataW.trod enc Try.prog W 0 (fun _ => true) true m 27 (List.take (Try.prog.cellsOf 27) (List.drop 2 [c0, c1, c2, c3])) = some y2 at q
    rw [cells_A2] at q
    exact q
  obtain ⟨xs, m2, _, e2, hl2, hlen2, hf2⟩ := DataW.trod_array Try.underlying27 f2
  obtain ⟨y3, y4, rfl⟩ := list2 hlen2
  have g0 : DataW.trod enc Try.prog W 0 (fun _ => true) true m2 3 [c2] = some y3 := by
    have q := hf2 0 (by decide)
    rw [cells_int] at q
    exact q
  have g1 : DataW.trod enc Try.prog W 0 (fun _ => true) true m2 3 [c3] = some y4 := by
    have q := hf2 1 (by decide)
    rw [cells_int] at q
    exact q
  obtain ⟨z0, e0, _, w0⟩ := DataW.trod_int Try.underlying26 f0
  obtain ⟨z1, e1, _, w1⟩ := DataW.trod_int Try.underlying3 f1
  obtain ⟨z2, e2, _, w2⟩ := DataW.trod_int Try.underlying3 g0
  obtain ⟨z3, e3, _, w3⟩ := DataW.trod_int Try.underlying3 g1
  simp only [List.cons.injEq, and_true] at e0 e1 e2 e3
  subst e0 e1 e2 e3
  refine ⟨⟨z0, z1, z2, z3⟩, rfl, ?_⟩
  intro n hn
  simp only [List.mem_cons, List.not_mem_nil, or_false] at hn
  rcases hn with rfl | rfl | rfl | rfl
  all_goals exact i64_wf (by assumption)
def GoodB (W : World) (b : RBlk) : Prop := (∀ n ∈ [b.term.kind, b.term.a, b.term.t0, b.term.t1], IR n) ∧ b.ins.length < 2 ^ 50 ∧ b.ins.length ≤ b.iC ∧ (∀ i ∈ b.ins, GoodI W i) ∧ Reads W W.heap.size 8 b.iA b.ins.length (b.ins.flatMap RIns.cells)
theorem open_block {n : Nat} {cs : List Value} {y : DataW H × List MemPlace} (h : DataW.trod enc Try.prog W 0 (fun _ => true) true n 50 cs = some y) (hw : Lean_ Try.prog 50 y.1) : ∃ b : RBlk, cs = b.cells ∧ GoodB W b := by
  obtain ⟨xs, m, _, rfl, hl, hlen, hf⟩ := DataW.trod_struct Try.underlying50 h
  simp only [List.size_toArray, List.length_cons, List.length_nil] at hlen
  obtain ⟨y0, y1, rfl⟩ := list2 hlen
  have hl5 : cs.length = 5 := hl.trans cells_Block
  obtain ⟨c0, c1, c2, c3, c4, rfl⟩ := list5 hl5
  have f0 : DataW.trod enc Try.prog W 0 (fun _ => true) true m 48 [c0] = some y0 := by
    have q := hf 0 _ rfl
    change DataW.trod enc Try.prog W 0 (fun _ => true) true m 48 (List.take (Try.prog.cellsOf 48) (List.drop 0 [c0, c1, c2, c3, c4])) = some y0 at q
    rw [cells_LIns] at q
    exact q
  have f1 : DataW.trod enc Try.prog W 0 (fun _ => true) true m 29 [c1, c2, c3, c4] = some y1 := by
    have q := hf 1 _ rfl
    change DataW.trod enc Try.prog W 0 (fun _ => true) true m 29 (List.take (Try.prog.cellsOf 29) (List.drop 1 [c0, c1, c2, c3, c4])) = some y1 at q
    rw [cells_Term] at q
    exact q
  obtain ⟨t, e1, ht⟩ := open_term f1
  obtain ⟨A, cp, l, e0, h1, h2, h3, h4⟩ := open_list (cf := RIns.cells) (Good := GoodI W) Try.underlying48 cells_Ins (by decide) (of_decide_eq_true (by kernel_rfl)) RIns.len (fun n cs y h hw => open_ins h hw) f0 (lean_struct Try.underlying50 (parts := [y0.1, y1.1]) hw (j := 0) rfl rfl)
  simp only [List.cons.injEq, and_true] at e0
  subst e0
  rw [e1]
  exact ⟨⟨A, cp, l, t⟩, rfl, ht, h4, h1, h3, h2⟩
theorem reads_func {v : Value} {d : DataW H} {p : List MemPlace} (h : DataW.Trod enc Try.prog W 0 (fun _ => true) true 43 v d p) (hv : ∃ cs, v = .agg cs) (hw : Lean_ Try.prog 43 d) : ∃ f : RFun, v = f.val ∧ FunAt W W.heap.size f ∧ Fit f := by
  obtain ⟨fuel, h⟩ := h
  obtain ⟨cs, rfl⟩ := hv
  obtain ⟨xs, m, _, e, hl, hlen, hf⟩ := DataW.trod_struct Try.underlying43 h
  simp only [List.size_toArray, List.length_cons, List.length_nil] at hlen
  obtain ⟨y0, y1, rfl⟩ := list2 hlen
  have hl2 : cs.toList.length = 2 := by simpa [Value.cells] using hl.trans cells_Func
  obtain ⟨c0, c1, hcs⟩ := list2 hl2
  have ed : d = .agg [y0.1, y1.1] := congrArg Prod.fst e
  subst ed
  simp only [Value.cells, hcs] at hf
  have f0 : DataW.trod enc Try.prog W 0 (fun _ => true) true m 23 [c0] = some y0 := by
    have q := hf 0 _ rfl
    change DataW.trod enc Try.prog W 0 (fun _ => true) true m 23 (List.take (Try.prog.cellsOf 23) (List.drop 0 [c0, c1])) = some y0 at q
    rw [cells_Lint] at q
    exact q
  have f1 : DataW.trod enc Try.prog W 0 (fun _ => true) true m 41 [c1] = some y1 := by
    have q := hf 1 _ rfl
    change DataW.trod enc Try.prog W 0 (fun _ => true) true m 41 (List.take (Try.prog.cellsOf 41) (List.drop 1 [c0, c1])) = some y1 at q
    rw [cells_LBlk] at q
    exact q
  obtain ⟨A, cp, l, e0, h1, h2, h3, h4⟩ := open_intl f0 (lean_struct Try.underlying43 (parts := [y0.1, y1.1]) hw (j := 0) rfl rfl)
  obtain ⟨A2, cp2, l2, e1, k1, k2, k3, k4⟩ := open_list (cf := RBlk.cells) (Good := GoodB W) Try.underlying41 cells_Block (by decide) (of_decide_eq_true (by kernel_rfl)) RBlk.len (fun n cs y h hw => open_block h hw) f1 (lean_struct Try.underlying43 (parts := [y0.1, y1.1]) hw (j := 1) rfl rfl)
  simp only [List.cons.injEq, and_true] at e0 e1
  subst e0 e1
  refine ⟨⟨A, cp, l, A2, cp2, l2⟩, ?_, ⟨h2, k2, fun b hb => (k3 b hb).2.2.2.2, fun b hb i hi => ((k3 b hb).2.2.2.1 i hi).2.2.2.2⟩, ?_⟩
  · have : cs = [Value.slice A l.length cp, .slice A2 l2.length cp2].toArray := by rw [← hcs]
    rw [this]; rfl
  · exact ⟨h3, h4, k4, h1, k1, fun b hb => (k3 b hb).2.1, fun b hb => (k3 b hb).2.2.1, fun b hb => (k3 b hb).1, fun b hb i hi => ((k3 b hb).2.2.2.1 i hi).1, fun b hb i hi => ((k3 b hb).2.2.2.1 i hi).2.1, fun b hb i hi => ((k3 b hb).2.2.2.1 i hi).2.2.1, fun b hb i hi => ((k3 b hb).2.2.2.1 i hi).2.2.2.1⟩
end
end
end Go.Proofs.Ytcojedoejpcolaa

/- Arguments that are an api.Ins, an api.Term, opened. -/
namespace Go.Proofs.Ytcojedoejpcolaa
set_option linter.unusedVariables false
open Go Go.ChangeShapes Go.WideShapes Go.ChangeAt Go.RowKit
set_option maxRecDepth 100000
section
theorem reads_ins {H : Type} {enc : TypeId × Value → H} {W : World} {v : Value} {d : DataW H} {p : List MemPlace} (h : DataW.Trod enc Try.prog W 0 (fun _ => true) true 25 v d p) (hv : ∃ cs, v = .agg cs) (hw : Lean_ Try.prog 25 d) : ∃ i : RIns, v = i.val ∧ InsAt W i := by
  obtain ⟨fuel, h⟩ := h
  obtain ⟨cs, rfl⟩ := hv
  obtain ⟨i, h1, h2, h3, h4, h5, h6⟩ := open_ins h hw
  have h7 : cs.toList = i.cells := h1
  refine ⟨i, ?_, h6, h3, h2 i.callee (by simp)⟩
  show Value.agg cs = .agg i.cells.toArray
  rw [← h7]
theorem reads_term {H : Type} {enc : TypeId × Value → H} {W : World} {v : Value} {d : DataW H} {p : List MemPlace} (h : DataW.Trod enc Try.prog W 0 (fun _ => true) true 29 v d p) (hv : ∃ cs, v = .agg cs) : ∃ t : Tm, v = t.val := by
  obtain ⟨fuel, h⟩ := h
  obtain ⟨cs, rfl⟩ := hv
  obtain ⟨t, h1, _⟩ := open_term h
  have h7 : cs.toList = t.cells := h1
  refine ⟨t, ?_⟩
  show Value.agg cs = .agg t.cells.toArray
  rw [← h7]
end
end Go.Proofs.Ytcojedoejpcolaa

/- IrParts: for every input that can be read, the law IrParts returns true and its arguments read as before. Conditions: the row. -/
namespace Go.Proofs.Ytcojedoejpcolaa
set_option linter.unusedVariables false
open Go Go.ChangeShapes Go.WideShapes Go.ChangeAt Go.RowKit
set_option maxRecDepth 100000

theorem irParts_lifted (os : Os) (started : os.Started) (H : Type) (enc : TypeId × Value → H) :
    ReturnsInHanded {} Try.checked os 3 .any (Rows.irPartsSpec.pre6 enc Try.prog Try.f3 Rows.irPartsRow.domain false) (Rows.irPartsSpec.post enc Try.prog Try.f3 false true false false) := by
  refine returnsInHanded_of_change_sized (C := Try.checked) own_ started (by kernel_rfl) Try.func3
    (ChangeSpec.witness6 (enc := enc) (C := Try.checked) false ⟨#[], #[.agg #[.int .i64 0, .int .i64 0, .int .i64 0, .int .i64 0, .int .i64 0, .int .i64 0, .slice none 0 0, .int .i64 0], .agg #[.int .i64 0, .int .i64 0, .int .i64 0, .int .i64 0]], []⟩ 8 (by kernel_rfl) (by kernel_rfl) (by kernel_rfl) (by kernel_rfl)) ?_
  intro W base args ds gs before hval0 hW _ hsz0 _
  have hval : ∀ (j : Nat) t v, Try.f3.params[j]? = some t → args[j]? = some v → Value.okWide Try.prog W .any base t v := hval0
  have hW' := hW
  obtain ⟨p, q, hA0, hV, rfl, hfz, hnd⟩ := hW
  have hA : DataW.TrodAll enc Try.prog W 0 (fun _ => true) true Try.f3.params.toList args.toList ds p := hA0
  have hsz : (DataW.weightsEach Try.prog (Try.f3.params.toList ++ Rows.irPartsSpec.plain.varTypes Try.prog) (ds ++ gs)).all (· ≤ reachBytes) = true := hsz0
  rw [Try.params3] at hA hval hsz
  obtain ⟨v0, vs0, d0, ds0, p0, q0, hargs, rfl, rfl, h0, r0⟩ := trodAll_cons hA
  obtain ⟨v1, vs1, d1, ds1, p1, q1, rfl, rfl, rfl, h1, r1⟩ := trodAll_cons r0
  obtain ⟨rfl, rfl, rfl⟩ := trodAll_nil r1
  obtain rfl : args = #[v0, v1] := by cases args; simp_all
  obtain ⟨rfl, rfl⟩ := trodVars_none hV
  have k0 := h0
  have lt0 : ∀ x ∈ p0, x.block < W.heap.size := by obtain ⟨m, hm⟩ := k0; exact DataW.trod_lt m _ _ _ hm
  obtain ⟨z0, rfl, x0⟩ := reads_ins h0 (Exists.imp (fun _ h => h.1) (okWide_struct Try.underlying25 (hval 0 25 v0 rfl rfl))) (lean_each hsz (j := 0) rfl rfl)
  have k1 := h1
  have lt1 : ∀ x ∈ p1, x.block < W.heap.size := by obtain ⟨m, hm⟩ := k1; exact DataW.trod_lt m _ _ _ hm
  obtain ⟨z1, rfl⟩ := reads_term h1 (Exists.imp (fun _ h => h.1) (okWide_struct Try.underlying29 (hval 1 29 v1 rfl rfl)))
  clear hA0 hval0
  refine ((law03_IrParts_ct x0).calls).mono fun e W' ⟨v, he, L, hh, hv, _⟩ => ?_
  subst hv
  subst he
  have bel := hh.below
  exact ⟨_, rfl, _, _, _, [], _, [], hW', trodAll_mk1 (shut_bool Try.underlying4 _), (trodAll_cons_mk (Below.trod laidOut_ (by kernel_rfl) (of_decide_eq_true (by kernel_rfl)) k0 bel lt0) (trodAll_cons_mk (Below.trod laidOut_ (by kernel_rfl) (of_decide_eq_true (by kernel_rfl)) k1 bel lt1) trodAll_mk0)), rfl, bel.frame _, fun h => by cases h⟩
theorem irParts_said : Rows.IrPartsSaid :=
  OpenClaim.holds_of_wide 3 Try.f3 rfl rfl rfl rfl rfl rfl rfl ⟨rfl, rfl, rfl, rfl, rfl⟩ rfl rfl rfl rfl rfl (by kernel_rfl) Try.func3 (by kernel_rfl)
    (of_decide_eq_true (by kernel_rfl)) (by unfold Func.isWrapper; rw [if_neg (of_decide_eq_false (by kernel_rfl))]; exact ⟨rfl, rfl⟩)
    (fun os started H enc _ => irParts_lifted os started H enc)
end Go.Proofs.Ytcojedoejpcolaa

