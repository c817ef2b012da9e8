/- Part 4 of the proof of RunSafeC: the texts RunX, RunY, RunL, RunG, Flow2, Flow3, Order, Struct, Law10, IrVars, Count, Pick, Law03, RunA, RunP, Law08, RunAgain, one behind the other. -/
import Derived.Laws.StructEq
import Derived.Test.YtcojedoejpcolaaRunSafeCM3
/- The package run: a function is copied, walked. -/
namespace Go.Proofs.Ytcojedoejpcolaa
set_option linter.unusedVariables false
open Go Go.RowKit
set_option maxRecDepth 100000

theorem get_next {α : Type} {l l' : List α} {q : Nat} {x : α} (hq : l'.length = q) (hx : l[q]? = some x) : (l' ++ l.drop q)[q]? = some x := by
  rw [List.getElem?_append_right (by omega), hq, Nat.sub_self, List.getElem?_drop]
  simpa using hx
theorem put_next {α : Type} {l l' : List α} {q : Nat} {x x' : α} (hq : l'.length = q) (hx : l[q]? = some x) : (l' ++ l.drop q).set q x' = (l' ++ [x']) ++ l.drop (q + 1) := by
  obtain ⟨hlt, hv⟩ := List.getElem?_eq_some_iff.1 hx
  rw [List.drop_eq_getElem_cons hlt, List.set_append_right _ _ (by omega), hq, Nat.sub_self, List.set_cons_zero]
  simp
section
theorem slices_Clone_L_api_Ins_ct {w : World} {A : Option Addr} {c n : Nat} {xs : List Value} (hl : Reads w w.heap.size 8 A n xs) (h1 : ∀ u ∈ xs, u.oneCell' = true) (hb : n < 2 ^ 36) : Ct Try.prog 142 #[.slice A n c] w (NewL 25 8 n xs) := by
  refine Ct.mk Try.func142 rfl rfl ?_
  refine Cd.seq ?_
  refine Cd.region ?_
  refine Ol.p ass ?_
  refine Ol.nil ?_
  refine Cd.seq ?_
  refine Cd.seq ?_
  refine Cd.region ?_
  refine Ol.p mvs ?_
  refine Ol.p (esn sl_L_api_Ins) ?_
  refine Ol.nil ?_
  refine Cd.cond rfl (fun h => ?_) (fun h => ?_)
  · refine Cd.seq ?_
    refine Cd.region ?_
    refine Ol.p ass ?_
    refine Ol.nil ?_
    refine Cd.nr 25 8 ?_
    have h0 : n = 0 := by
      rcases Nat.eq_zero_or_pos n with h0 | h0
      · exact h0
      · obtain ⟨a, rfl, _⟩ := hl.2 h0; cases h
    subst h0
    have hx : xs = [] := List.eq_nil_of_length_eq_zero (by simpa using hl.1)
    subst hx
    refine Cd.ret ⟨.slice none 0 0, ret1 rfl rfl, _, .all, none, 0, rfl, rfl⟩
  · refine Cd.skip ?_
    refine Cd.seq ?_
    refine Cd.region ?_
    refine Ol.x (bsn [] sl_L_api_Ins zr_api_Ins (by simp) rfl (by omega) (by simp [maxLen])) ?_
    rintro _ _ ⟨g5, rfl, rfl⟩
    refine Ol.p mvs ?_
    refine Ol.x (apn (i := 0) (n := 0) (xs := []) sl_L_api_Ins zr_api_Ins rfl (by decide) rfl (Src.slc hl) h1 (by unfold maxLen; omega) (by omega)) ?_
    rintro _ _ ⟨A', c', rfl, rfl⟩
    refine Ol.p ass ?_
    refine Ol.nil ?_
    rw [Nat.zero_add]
    refine Cd.ret ⟨.slice A' n c', ret1 rfl rfl, _, .all, A', c', rfl, rfl⟩
end
section
theorem slices_Clone_L_api_Block_ct {w : World} {A : Option Addr} {c n : Nat} {xs : List Value} (hl : Reads w w.heap.size 5 A n xs) (h1 : ∀ u ∈ xs, u.oneCell' = true) (hb : n < 2 ^ 36) : Ct Try.prog 141 #[.slice A n c] w (NewL 50 5 n xs) := by
  refine Ct.mk Try.func141 rfl rfl ?_
  refine Cd.seq ?_
  refine Cd.region ?_
  refine Ol.p ass ?_
  refine Ol.nil ?_
  refine Cd.seq ?_
  refine Cd.seq ?_
  refine Cd.region ?_
  refine Ol.p mvs ?_
  refine Ol.p (esn sl_L_api_Block) ?_
  refine Ol.nil ?_
  refine Cd.cond rfl (fun h => ?_) (fun h => ?_)
  · refine Cd.seq ?_
    refine Cd.region ?_
    refine Ol.p ass ?_
    refine Ol.nil ?_
    refine Cd.nr 50 5 ?_
    have h0 : n = 0 := by
      rcases Nat.eq_zero_or_pos n with h0 | h0
      · exact h0
      · obtain ⟨a, rfl, _⟩ := hl.2 h0; cases h
    subst h0
    have hx : xs = [] := List.eq_nil_of_length_eq_zero (by simpa using hl.1)
    subst hx
    refine Cd.ret ⟨.slice none 0 0, ret1 rfl rfl, _, .all, none, 0, rfl, rfl⟩
  · refine Cd.skip ?_
    refine Cd.seq ?_
    refine Cd.region ?_
    refine Ol.x (bsn [] sl_L_api_Block zr_api_Block (by simp) rfl (by omega) (by simp [maxLen])) ?_
    rintro _ _ ⟨g5, rfl, rfl⟩
    refine Ol.p mvs ?_
    refine Ol.x (apn (i := 0) (n := 0) (xs := []) sl_L_api_Block zr_api_Block rfl (by decide) rfl (Src.slc hl) h1 (by unfold maxLen; omega) (by omega)) ?_
    rintro _ _ ⟨A', c', rfl, rfl⟩
    refine Ol.p ass ?_
    refine Ol.nil ?_
    rw [Nat.zero_add]
    refine Cd.ret ⟨.slice A' n c', ret1 rfl rfl, _, .all, A', c', rfl, rfl⟩
end
section
set_option maxHeartbeats 4000000 in
theorem run_copied_ct {w : World} {f : RFun} (hf : FunAt w w.heap.size f) (hp : f.params.length < 2 ^ 43) (hl : BlksIn w w.heap.size f.bA f.blocks) (hal : ∀ b ∈ f.blocks, ∀ i ∈ b.ins, i.args.length < 2 ^ 43) : Ct Try.prog 94 #[f.val] w (fun v R => ∃ g : RFun, g.bare = f.bare ∧ v = g.val ∧ R.Perm (funRes g)) := by
  have hlen := hl.len
  refine Ct.mk Try.func94 rfl rfl ?_
  refine Cd.seq ?_
  refine Cd.region ?_
  refine Ol.x bxg ?_
  rintro _ _ ⟨g1, rfl, rfl⟩
  refine Ol.x (alc zr_api_Func) ?_
  rintro _ _ ⟨g2, rfl, rfl⟩
  refine Ol.nil ?_
  refine Cd.seq ?_
  refine Cd.draw mixed 7 (fun opNo => match opNo with | 2 => some (NewL 3 1 f.params.length (ints f.params)) | 5 => some (NewL 50 5 f.blocks.length (f.blocks.flatMap RBlk.cells)) | _ => none) (fun _ => []) (by kernel_rfl) (by intro q V h; split at h <;> cases h; exact ⟨_, _, none, 0, rfl, rfl⟩; exact ⟨_, _, none, 0, rfl, rfl⟩) (fun u hu => ?_)
  refine Wk.p (fdl fd_api_Func_0) ?_
  refine Wk.p (ld (v := .slice f.pA f.params.length f.pC) one_L_int (Rd.blk (i := 1) rfl rfl)) ?_
  refine Wk.x (V := NewL 3 1 f.params.length (ints f.params)) hu (sp_call en_slices_Clone_L_int_int (fun M w' hh => slices_Clone_L_int_int_ct (hf.params.now hh) (ints_one _) hp)) ?_
  rintro _ _ hu2 ⟨A8, c8, rfl, rfl⟩
  refine Wk.p (fdl fd_api_Func_1) ?_
  refine Wk.p (ld (v := .slice f.bA f.blocks.length f.bC) one_L_api_Block (Rd.blk (i := 1) rfl rfl)) ?_
  refine Wk.x (V := NewL 50 5 f.blocks.length (f.blocks.flatMap RBlk.cells)) hu (sp_call en_slices_Clone_L_api_Block_api_Block (fun M w' hh => slices_Clone_L_api_Block_ct (hl.row.now hh) (one_flatB _) hlen)) ?_
  rintro _ _ hu5 ⟨A11, c11, rfl, rfl⟩
  refine Wk.p (fdl fd_api_Func_0) ?_
  refine Wk.nil ?_
  rw [needs_cons hu5, needs_cons hu2, needs_none]
  refine Ol.s (sto (v := .slice A8 f.params.length c8) (i := 3) (k := 0 + 0) (.inr sz_L_int) rfl rfl rfl (by simp [RFun.cells]) rfl) ?_
  refine Ol.p (fdl fd_api_Func_1) ?_
  refine Ol.s (sto (v := .slice A11 f.blocks.length c11) (i := 3) (k := 0 + 1) (.inr sz_L_api_Block) rfl rfl rfl (by simp [RFun.cells]) rfl) ?_
  refine Ol.nil ?_
  obtain ⟨rowP, hrP⟩ : ∃ r, r = row (.slice A8 f.params.length c8) 3 1 f.params.length (ints f.params) := ⟨_, rfl⟩
  rw [← hrP]
  refine Cd.seq ?_
  refine Cd.seq ?_
  refine Cd.region ?_
  refine Ol.p (fdl fd_api_Func_1) ?_
  refine Ol.p (ld (v := .slice A11 f.blocks.length c11) one_L_api_Block (Rd.blk (i := 3) rfl rfl)) ?_
  refine Ol.p (lens sl_L_api_Block) ?_
  refine Ol.p mvi ?_
  refine Ol.nil ?_
  refine Cd.block ?_   -- 0
  refine Cd.loop (fun m σ L => ∃ (k : Nat) (l' : List RBlk) (X : List Res), m = f.blocks.length - k ∧ k ≤ f.blocks.length ∧ l'.map RBlk.bare = (f.blocks.take k).map RBlk.bare ∧ X.Perm (l'.flatMap blkRes) ∧ Has σ [(1, .pointer (some ⟨g1, 0, none⟩)), (2, .pointer (some ⟨g2, 0, none⟩)), (16, .int .i64 f.blocks.length), (17, .int .i64 k)] ∧ row (.slice A11 f.blocks.length c11) 50 5 f.blocks.length ((l' ++ f.blocks.drop k).flatMap RBlk.cells) :: rowP :: blk g2 (.cells #[.slice none 0 0, .slice none 0 0] 43) :: blk g1 (.cells #[.slice A8 f.params.length c8, .slice A11 f.blocks.length c11] 43) :: X = L) (n := f.blocks.length) ⟨0, [], [], rfl, Nat.zero_le _, rfl, .refl _, ⟨rfl, rfl, rfl, rfl, trivial⟩, rfl⟩ ?_
  rintro _ σ L ⟨k, l', X, rfl, hk, hbare, hX, hs, rfl⟩
  have hkl : l'.length = k := by
    have := congrArg List.length hbare
    simp at this; omega
  refine Cd.has hs ?_
  clear hs
  refine Cd.seq ?_
  refine Cd.region ?_
  refine Ol.p lsi ?_
  refine Ol.nil ?_
  refine Cd.seq ?_
  refine Cd.cond rfl (fun h => ?_) (fun h => ?_)   -- $18
  · have hlt : k < f.blocks.length := by
      simp only [decide_eq_true_eq] at h; omega
    obtain ⟨b, hb⟩ : ∃ b, f.blocks[k]? = some b := ⟨_, List.getElem?_eq_getElem hlt⟩
    have hbm := List.mem_of_getElem? hb
    have hil := hl.ilen b hbm
    refine Cd.skip ?_
    refine Cd.seq ?_
    refine Cd.block ?_   -- 1
    refine Cd.seq ?_
    refine Cd.region ?_
    refine Ol.p mvi ?_
    refine Ol.p asi ?_
    refine Ol.nil ?_
    refine Cd.seq ?_
    refine Cd.region ?_
    refine Ol.p (fdl fd_api_Func_1) ?_
    refine Ol.p (ld (v := .slice A11 f.blocks.length c11) one_L_api_Block (Rd.blk (i := 3) rfl rfl)) ?_
    refine Ol.p mvi ?_
    refine Ol.p (ixn (ix := k) sl_L_api_Block (Som.row (i := 0) rfl (by omega))) ?_
    refine Ol.p (fdp fd_api_Block_0) ?_
    refine Ol.p (ld (v := .slice b.iA b.ins.length b.iC) one_L_api_Ins (Rd.row (i := 0) rfl (blk_cell (j := 0) (get_next hkl hb) rfl))) ?_
    refine Ol.x (sp_call en_slices_Clone_L_api_Ins_api_Ins (fun M w' hh => slices_Clone_L_api_Ins_ct ((hl.ins b hbm).now hh) (one_flatI _) hil)) ?_
    rintro _ _ ⟨_, rfl, A26, c26, rfl, rfl⟩
    refine Ol.p ass ?_
    refine Ol.nil ?_
    refine Cd.seq ?_
    refine Cd.seq ?_
    refine Cd.region ?_
    refine Ol.p mvs ?_
    refine Ol.p (lens sl_L_api_Ins) ?_
    refine Ol.p mvi ?_
    refine Ol.nil ?_
    refine Cd.block ?_   -- 2
    refine Cd.loop (fun m σ L => ∃ (q : Nat) (il : List RIns) (X2 : List Res), m = b.ins.length - q ∧ q ≤ b.ins.length ∧ il.map RIns.bare = (b.ins.take q).map RIns.bare ∧ X2.Perm (il.map insRes ++ l'.flatMap blkRes) ∧ Has σ [(1, .pointer (some ⟨g1, 0, none⟩)), (2, .pointer (some ⟨g2, 0, none⟩)), (3, .int .i64 k), (4, .slice A26 b.ins.length c26), (16, .int .i64 f.blocks.length), (17, .int .i64 k), (28, .int .i64 b.ins.length), (29, .int .i64 q)] ∧ row (.slice A26 b.ins.length c26) 25 8 b.ins.length ((il ++ b.ins.drop q).flatMap RIns.cells) :: row (.slice A11 f.blocks.length c11) 50 5 f.blocks.length ((l' ++ f.blocks.drop k).flatMap RBlk.cells) :: rowP :: blk g2 (.cells #[.slice none 0 0, .slice none 0 0] 43) :: blk g1 (.cells #[.slice A8 f.params.length c8, .slice A11 f.blocks.length c11] 43) :: X2 = L) (n := b.ins.length) ⟨0, [], X, rfl, Nat.zero_le _, rfl, hX, ⟨rfl, rfl, rfl, rfl, rfl, rfl, rfl, rfl, trivial⟩, rfl⟩ ?_
    rintro _ σ L ⟨q, il, X2, rfl, hq, hib, hX2, hs, rfl⟩
    have hql : il.length = q := by
      have := congrArg List.length hib
      simp at this; omega
    refine Cd.has hs ?_
    clear hs
    refine Cd.seq ?_
    refine Cd.region ?_
    refine Ol.p lsi ?_
    refine Ol.nil ?_
    refine Cd.seq ?_
    refine Cd.cond rfl (fun h => ?_) (fun h => ?_)   -- $30
    · have hqt : q < b.ins.length := by
        simp only [decide_eq_true_eq] at h; omega
      obtain ⟨i, hi⟩ : ∃ i, b.ins[q]? = some i := ⟨_, List.getElem?_eq_getElem hqt⟩
      have him := List.mem_of_getElem? hi
      have hial := hal b hbm i him
      have e : ∀ (A : Option Addr) (c : Nat), ((il ++ b.ins.drop q).flatMap RIns.cells).set (q * 8 + 6) (.slice A i.args.length c) = (il ++ [i.at_ A c] ++ b.ins.drop (q + 1)).flatMap RIns.cells := fun A c => by
        rw [flat_set_at (F := RIns.cells) RIns.len (by decide) (x := i) (x' := i.at_ A c) rfl (get_next hql hi), put_next hql hi]
      refine Cd.skip ?_
      refine Cd.seq ?_
      refine Cd.block ?_   -- 3
      refine Cd.seq ?_
      refine Cd.region ?_
      refine Ol.p mvi ?_
      refine Ol.p asi ?_
      refine Ol.nil ?_
      refine Cd.region ?_
      refine Ol.p mvs ?_
      refine Ol.p mvi ?_
      refine Ol.p mvs ?_
      refine Ol.p mvi ?_
      refine Ol.p (ixn (ix := q) sl_L_api_Ins (Som.row (i := 0) rfl (by omega))) ?_
      refine Ol.p (fdp fd_api_Ins_6) ?_
      refine Ol.p (ld (v := .slice i.aA i.args.length i.aC) one_L_int (Rd.row (i := 0) rfl (ins_cell (j := 6) (get_next hql hi) rfl))) ?_
      refine Ol.x (sp_call en_slices_Clone_L_int_int (fun M w' hh => slices_Clone_L_int_int_ct (xs := ints i.args) ((hl.args b hbm i him).now hh) (ints_one _) hial)) ?_
      rintro _ _ ⟨_, rfl, A39, c39, rfl, rfl⟩
      refine Ol.p (ixn (ix := q) sl_L_api_Ins (Som.row (i := 1) rfl (by omega))) ?_
      refine Ol.p (fdp fd_api_Ins_6) ?_
      refine Ol.s (str (v := .slice A39 i.args.length c39) (i := 1) (k := q * 8 + 6) (A := A26) (xs := (il ++ b.ins.drop q).flatMap RIns.cells) sz_L_int rfl rfl rfl (List.getElem?_eq_some_iff.1 (ins_cell (j := 6) (get_next hql hi) rfl)).1 rfl) ?_
      refine Ol.keep (keep_count (L' := row (.slice A26 b.ins.length c26) 25 8 b.ins.length ((il ++ [i.at_ A39 c39] ++ b.ins.drop (q + 1)).flatMap RIns.cells) :: row (.slice A11 f.blocks.length c11) 50 5 f.blocks.length ((l' ++ f.blocks.drop k).flatMap RBlk.cells) :: rowP :: blk g2 (.cells #[.slice none 0 0, .slice none 0 0] 43) :: blk g1 (.cells #[.slice A8 f.params.length c8, .slice A11 f.blocks.length c11] 43) :: insRes (i.at_ A39 c39) :: X2) [] fun _ x => by rw [e, show insRes (i.at_ A39 c39) = row (.slice A39 i.args.length c39) 3 1 i.args.length (ints i.args) from rfl]; simp only [List.cons_append, List.nil_append, List.set_cons_succ, List.set_cons_zero, List.count_cons, List.append_nil]; omega) ?_
      refine Ol.nil ?_
      refine Cd.region ?_
      refine Ol.p addi ?_
      refine Ol.p mvi ?_
      refine Ol.nil ?_
      refine ⟨b.ins.length - (q + 1), by omega, q + 1, il ++ [i.at_ A39 c39], insRes (i.at_ A39 c39) :: X2, rfl, by omega, ?_, ?_, ⟨rfl, rfl, rfl, rfl, rfl, rfl, rfl, rfl, trivial⟩, rfl⟩
      · rw [take_snoc_ hi, List.map_append, List.map_append, hib]; rfl
      · rw [List.map_append, List.append_assoc]
        exact (hX2.cons _).trans List.perm_middle.symm
    have hqe : q = b.ins.length := by
      simp only [decide_eq_false_iff_not] at h; omega
    have hil' : il.length = b.ins.length := by omega
    have hdr : il ++ b.ins.drop q = il := by rw [List.drop_eq_nil_of_le (by omega), List.append_nil]
    have hib2 : il.map RIns.bare = b.ins.map RIns.bare := by rw [hib, hqe, List.take_of_length_le (Nat.le_refl _)]
    have e : ((l' ++ f.blocks.drop k).flatMap RBlk.cells).set (k * 5 + 0) (.slice A26 b.ins.length c26) = (l' ++ [b.at_ A26 c26 il] ++ f.blocks.drop (k + 1)).flatMap RBlk.cells := by
      rw [flat_set_at (F := RBlk.cells) RBlk.len (by decide) (x := b) (x' := b.at_ A26 c26 il) (by unfold RBlk.at_ RBlk.cells; simp only [hil']; rfl) (get_next hkl hb), put_next hkl hb]
    have e2 : insRow (b.at_ A26 c26 il) = row (.slice A26 b.ins.length c26) 25 8 b.ins.length (il.flatMap RIns.cells) := by
      unfold insRow RBlk.at_; simp only [hil']
    refine Cd.exit (id := 2) ?_
    refine Cd.region ?_
    refine Ol.p (fdl fd_api_Func_1) ?_
    refine Ol.p (ld (v := .slice A11 f.blocks.length c11) one_L_api_Block (Rd.blk (i := 4) rfl rfl)) ?_
    refine Ol.p mvi ?_
    refine Ol.p mvs ?_
    refine Ol.p (ixn (ix := k) sl_L_api_Block (Som.row (i := 1) rfl (by omega))) ?_
    refine Ol.p (fdp fd_api_Block_0) ?_
    refine Ol.s (str (v := .slice A26 b.ins.length c26) (i := 1) (k := k * 5 + 0) (A := A11) (xs := (l' ++ f.blocks.drop k).flatMap RBlk.cells) sz_L_api_Ins rfl rfl rfl (List.getElem?_eq_some_iff.1 (blk_cell (j := 0) (get_next hkl hb) rfl)).1 rfl) ?_
    refine Ol.keep (keep_count (L' := row (.slice A11 f.blocks.length c11) 50 5 f.blocks.length ((l' ++ [b.at_ A26 c26 il] ++ f.blocks.drop (k + 1)).flatMap RBlk.cells) :: rowP :: blk g2 (.cells #[.slice none 0 0, .slice none 0 0] 43) :: blk g1 (.cells #[.slice A8 f.params.length c8, .slice A11 f.blocks.length c11] 43) :: insRow (b.at_ A26 c26 il) :: X2) [] fun _ x => by rw [e, e2, hdr]; simp only [List.set_cons_succ, List.set_cons_zero, List.count_cons, List.append_nil]; omega) ?_
    refine Ol.nil ?_
    refine Cd.region ?_
    refine Ol.p addi ?_
    refine Ol.p mvi ?_
    refine Ol.nil ?_
    refine ⟨f.blocks.length - (k + 1), by omega, k + 1, l' ++ [b.at_ A26 c26 il], insRow (b.at_ A26 c26 il) :: X2, rfl, by omega, ?_, ?_, ⟨rfl, rfl, rfl, rfl, trivial⟩, rfl⟩
    · rw [take_snoc_ hb, List.map_append, List.map_append, hbare, List.map_singleton, List.map_singleton, RBlk.at_bare hib2]
    · rw [List.flatMap_append]
      have : [b.at_ A26 c26 il].flatMap blkRes = insRow (b.at_ A26 c26 il) :: il.map insRes := by simp [blkRes, RBlk.at_]
      rw [this]
      exact (hX2.cons _).trans (List.perm_append_comm (l₁ := insRow (b.at_ A26 c26 il) :: il.map insRes))
  have hke : k = f.blocks.length := by
    simp only [decide_eq_false_iff_not] at h; omega
  have hll : l'.length = f.blocks.length := by omega
  have hdr : l' ++ f.blocks.drop k = l' := by rw [List.drop_eq_nil_of_le (by omega), List.append_nil]
  refine Cd.exit (id := 0) ?_
  refine Cd.seq ?_
  refine Cd.region ?_
  refine Ol.p (ldw (cs := #[.slice A8 f.params.length c8, .slice A11 f.blocks.length c11]) ag_api_Func (i := 3) rfl rfl) ?_
  refine Ol.s (stw (vs := #[.slice A8 f.params.length c8, .slice A11 f.blocks.length c11]) sz_api_Func rfl (by intro u hu; simp at hu; rcases hu with rfl | rfl <;> rfl) (i := 2) rfl rfl) ?_
  refine Ol.nil ?_
  refine Cd.ret ⟨_, retc rfl ag_api_Func rfl (i := 2) rfl rfl, _, .sub (.cons_cons _ (.cons_cons _ (.cons _ (.cons _ (List.Sublist.refl _))))), ⟨A8, c8, f.params, A11, c11, l'⟩, ?_, ?_, ?_⟩
  · unfold RFun.bare
    rw [show (l' : List RBlk).map RBlk.bare = f.blocks.map RBlk.bare by rw [hbare, hke, List.take_of_length_le (Nat.le_refl _)]]
  · unfold RFun.val RFun.cells
    simp only [hll]
  · rw [hdr, hrP, ← hll]
    exact ((hX.cons _).cons _).trans (List.Perm.swap ..)
end
end Go.Proofs.Ytcojedoejpcolaa

/- The package run: a run begins, walked. -/
namespace Go.Proofs.Ytcojedoejpcolaa
set_option linter.unusedVariables false
open Go Go.RowKit
set_option maxRecDepth 100000

def begV (l : List (Int × Int)) : Int → Option Int := l.foldl (fun f p => updI f p.1 p.2) (fun _ => none)
theorem begV_snoc (l : List (Int × Int)) (p : Int × Int) : begV (l ++ [p]) = updI (begV l) p.1 p.2 := by
  unfold begV
  rw [List.foldl_append]
  rfl
def begS (f : RFun) (args mem ans : List Int) : RSt := ⟨begV (f.params.zip args), 0, 0, 0, 0, mem, ans, [], 0⟩
def okB (f : RFun) (args mem : List Int) : Prop := rightF f = 0 ∧ args.length = f.params.length ∧ mem.length ≤ 64
noncomputable instance (f : RFun) (args mem : List Int) : Decidable (okB f args mem) := by unfold okB; infer_instance
/-- A slice of one's own is no longer than its room. -/
theorem Cd.cap {C : Ctx} {k : Code} {Q : Exit → Env → List Res → Prop} {σ : Env} {L : List Res} {i n c e s : Nat} {A : Option Addr} {xs : List Value} (hi : L[i]? = some (row (.slice A n c) e s n xs)) (hc : n ≤ c → Cd C k Q σ L) : Cd C k Q σ L := fun a w ha hs =>
  hc (cap_row (hs.heap.at_ hi)) a w ha hs
section
def BegR (f : RFun) (args mem ans : List Int) : Value → List Res → Prop := fun v R =>
  (okB f args mem ∧ ∃ y : RLay, y.g.bare = f.bare ∧ (∀ w0 B, RunOk w0 B y (begS f args mem ans)) ∧ v = .tuple #[.pointer (some ⟨y.gR, 0, none⟩), .int .i64 0] ∧ R = runL y (begS f args mem ans)) ∨
  (¬ okB f args mem ∧ v = .tuple #[.pointer none, .int .i64 2] ∧ R = [])
set_option maxHeartbeats 4000000 in
theorem run_Begin_ct {w : World} {f : RFun} {aA mA nA : Option Addr} {aC mC nC : Nat} {args mem ans : List Int} (hf : FunAt w w.heap.size f) (hfit : Fit f) (hp : f.params.length < 2 ^ 43) (hl : BlksIn w w.heap.size f.bA f.blocks) (hal : ∀ b ∈ f.blocks, ∀ i ∈ b.ins, i.args.length < 2 ^ 43)
    (ha : Reads w w.heap.size 1 aA args.length (ints args)) (hm : Reads w w.heap.size 1 mA mem.length (ints mem)) (hn : Reads w w.heap.size 1 nA ans.length (ints ans)) (hml : mem.length < 2 ^ 43) (hnl : ans.length < 2 ^ 43) :
    Ct Try.prog 48 #[f.val, .slice aA args.length aC, .slice mA mem.length mC, .slice nA ans.length nC] w (BegR f args mem ans) := by
  refine Ct.mk Try.func48 rfl rfl ?_
  refine Cd.seq ?_
  refine Cd.region ?_
  refine Ol.x bxg ?_
  rintro _ _ ⟨g4, rfl, rfl⟩
  refine Ol.p asp ?_
  refine Ol.p asi ?_
  refine Ol.nil ?_
  refine Cd.seq ?_
  refine Cd.mid (fun σ' L' => Has σ' [(1, .slice aA args.length aC), (2, .slice mA mem.length mC), (3, .slice nA ans.length nC), (4, .pointer (some ⟨g4, 0, none⟩)), (28, .bool (decide (¬ okB f args mem)))] ∧ [blk g4 (.cells f.cells.toArray 43)] = L') ?_ ?_
  · cases h3 : !decide (rightF f = 0) with
    | true =>
      have h11 : true = true := rfl
      refine Cd.region ?_
      refine Ol.p (ldw (cs := f.cells.toArray) ag_api_Func (i := 0) rfl rfl) ?_
      refine Ol.s (cl en_ir_Right (fun M w' hh => ir_Right_ct (hf.now hh) hfit)) ?_
      refine Ol.p nei ?_
      refine Ol.p mvb ?_
      refine Ol.gn h3 ?_
      refine Ol.gn h3 ?_
      refine Ol.gn h3 ?_
      refine Ol.gn h3 ?_
      refine Ol.gn h3 ?_
      refine Ol.gn h3 ?_
      refine Ol.p (pkTb h3) ?_
      refine Ol.p mvb ?_
      refine Ol.gn h11 ?_
      refine Ol.gn h11 ?_
      refine Ol.gn h11 ?_
      refine Ol.p (pkTb h11) ?_
      refine Ol.nil ?_
      refine ⟨⟨rfl, rfl, rfl, rfl, congrArg Value.bool ?_, trivial⟩, rfl⟩
      have : rightF f ≠ 0 := by simpa using h3
      simp [okB, this]
    | false =>
      have hr : rightF f = 0 := by simpa using h3
      cases h11 : !decide ((args.length : Int) = (f.params.length : Int)) with
      | true =>
        refine Cd.region ?_
        refine Ol.p (ldw (cs := f.cells.toArray) ag_api_Func (i := 0) rfl rfl) ?_
        refine Ol.s (cl en_ir_Right (fun M w' hh => ir_Right_ct (hf.now hh) hfit)) ?_
        refine Ol.p nei ?_
        refine Ol.p mvb ?_
        refine Ol.gp h3 mvs ?_
        refine Ol.gp h3 (lens sl_L_int) ?_
        refine Ol.gp h3 (fdl fd_api_Func_0) ?_
        refine Ol.gp h3 (ld (v := .slice f.pA f.params.length f.pC) one_L_int (Rd.blk (i := 0) rfl rfl)) ?_
        refine Ol.gp h3 (lens sl_L_int) ?_
        refine Ol.gp h3 nei ?_
        refine Ol.p (pkFb h3) ?_
        refine Ol.p mvb ?_
        refine Ol.gn h11 ?_
        refine Ol.gn h11 ?_
        refine Ol.gn h11 ?_
        refine Ol.p (pkTb h11) ?_
        refine Ol.nil ?_
        refine ⟨⟨rfl, rfl, rfl, rfl, congrArg Value.bool ?_, trivial⟩, rfl⟩
        have : ¬ args.length = f.params.length := by
          intro he; rw [he] at h11; simp at h11
        simp [okB, this]
      | false =>
        refine Cd.region ?_
        refine Ol.p (ldw (cs := f.cells.toArray) ag_api_Func (i := 0) rfl rfl) ?_
        refine Ol.s (cl en_ir_Right (fun M w' hh => ir_Right_ct (hf.now hh) hfit)) ?_
        refine Ol.p nei ?_
        refine Ol.p mvb ?_
        refine Ol.gp h3 mvs ?_
        refine Ol.gp h3 (lens sl_L_int) ?_
        refine Ol.gp h3 (fdl fd_api_Func_0) ?_
        refine Ol.gp h3 (ld (v := .slice f.pA f.params.length f.pC) one_L_int (Rd.blk (i := 0) rfl rfl)) ?_
        refine Ol.gp h3 (lens sl_L_int) ?_
        refine Ol.gp h3 nei ?_
        refine Ol.p (pkFb h3) ?_
        refine Ol.p mvb ?_
        refine Ol.gp h11 mvs ?_
        refine Ol.gp h11 (lens sl_L_int) ?_
        refine Ol.gp h11 gti ?_
        refine Ol.p (pkFb h11) ?_
        refine Ol.nil ?_
        refine ⟨⟨rfl, rfl, rfl, rfl, congrArg Value.bool ?_, trivial⟩, rfl⟩
        have h2 : args.length = f.params.length := by
          have : (args.length : Int) = (f.params.length : Int) := by simpa using h11
          omega
        simp only [okB, hr, h2, true_and]
        by_cases hc : mem.length ≤ 64
        · have : ¬ ((mem.length : Int) > 64) := by omega
          simp [hc]
          omega
        · simp [hc]
          omega
  rintro σ' _ ⟨hs', rfl⟩
  refine Cd.has hs' ?_
  clear hs'
  refine Cd.cond rfl (fun h => ?_) (fun h => ?_)
  · have hno : ¬ okB f args mem := of_decide_eq_true h
    refine Cd.seq ?_
    refine Cd.region ?_
    refine Ol.p asp ?_
    refine Ol.p asi ?_
    refine Ol.nil ?_
    exact Cd.ret ⟨.tuple #[.pointer none, .int .i64 2], ret2 rfl rfl rfl, _, .sub (.cons _ .slnil), .inr ⟨hno, rfl, rfl⟩⟩
  have hyes : okB f args mem := Classical.not_not.1 (of_decide_eq_false h)
  obtain ⟨hr0, hapl, hm64⟩ := hyes
  refine Cd.skip ?_
  refine Cd.nr 133 2 ?_
  refine Cd.seq ?_
  refine Cd.region ?_
  refine Ol.x mkm ?_
  rintro _ _ ⟨gM, rfl, rfl⟩
  refine Ol.p (ldw (cs := f.cells.toArray) ag_api_Func (i := 2) rfl rfl) ?_
  refine Ol.x (sp_call en_run_copied (fun M w' hh => run_copied_ct (hf.now hh) hp (hl.now hh) hal)) ?_
  rintro _ _ ⟨X, rfl, g, hgb, rfl, hX⟩
  refine Ol.p mvs ?_
  refine Ol.x (sp_call en_slices_Clone_L_int_int (fun M w' hh => slices_Clone_L_int_int_ct (xs := ints mem) (hm.now hh) (ints_one _) hml)) ?_
  rintro _ _ ⟨_, rfl, A33, c33, rfl, rfl⟩
  refine Ol.p mvs ?_
  refine Ol.x (sp_call en_slices_Clone_L_int_int (fun M w' hh => slices_Clone_L_int_int_ct (xs := ints ans) (hn.now hh) (ints_one _) hnl)) ?_
  rintro _ _ ⟨_, rfl, A35, c35, rfl, rfl⟩
  refine Ol.p (bds (cs := #[.map (some gM), .int .i64 0, .int .i64 0, .int .i64 0, .int .i64 0, .slice g.pA g.params.length g.pC, .slice g.bA g.blocks.length g.bC, .slice A33 mem.length c33, .slice A35 ans.length c35, .slice none 0 0, .int .i64 0]) bs_run_Run zr_run_Run (hf := by kernel_rfl)) ?_
  refine Ol.x bxg ?_
  rintro _ _ ⟨gR, rfl, rfl⟩
  refine Ol.p asp ?_
  refine Ol.nil ?_
  refine Cd.cap (i := 1) rfl fun hcap => ?_
  obtain ⟨y0, hy0⟩ : ∃ y0 : RLay, y0 = ⟨gR, gM, #[], 0, A33, c33, A35, c35, none, 0, [], g, row (.slice A35 ans.length c35) 3 1 ans.length (ints ans)⟩ := ⟨_, rfl⟩
  obtain ⟨s0, hs0⟩ : ∃ s0 : RSt, s0 = ⟨fun _ => none, 0, 0, 0, 0, mem, ans, [], 0⟩ := ⟨_, rfl⟩
  refine Cd.keep (L' := blk g4 (.cells f.cells.toArray 43) :: runL y0 s0) (keep_count [] fun _ x => by
    have := hX.count_eq x
    have e : runCells y0 s0 = #[.map (some gM), .int .i64 0, .int .i64 0, .int .i64 0, .int .i64 0, .slice g.pA g.params.length g.pC, .slice g.bA g.blocks.length g.bC, .slice A33 mem.length c33, .slice A35 ans.length c35, .slice none 0 0, .int .i64 0] := by rw [hy0, hs0]; rfl
    have e2 : runL y0 s0 = blk gR (.cells (runCells y0 s0) 141) :: blk gM (.map #[] 0) :: row (.slice A33 mem.length c33) 3 1 mem.length (ints mem) :: row (.slice A35 ans.length c35) 3 1 ans.length (ints ans) :: row (.slice none 0 0) 133 2 0 [] :: funRes g := by rw [hy0, hs0]; rfl
    rw [e2, e]
    simp only [List.count_append, List.count_cons, List.count_nil, List.cons_append, List.nil_append, List.append_nil]
    omega) ?_
  refine Cd.seq ?_
  refine Cd.seq ?_
  refine Cd.region ?_
  refine Ol.p (fdl fd_api_Func_0) ?_
  refine Ol.p (ld (v := .slice f.pA f.params.length f.pC) one_L_int (Rd.blk (i := 0) rfl rfl)) ?_
  refine Ol.p (lens sl_L_int) ?_
  refine Ol.p mvi ?_
  refine Ol.nil ?_
  refine Cd.block ?_   -- 0
  refine Cd.loop (fun m σ L => ∃ (k : Nat) (es : Array MapEntry) (cl : Nat), m = f.params.length - k ∧ k ≤ f.params.length ∧ AllI es.toList ∧ (∀ q, mget es.toList q = (begV ((f.params.zip args).take k) q).map fun n => .int .i64 n) ∧ Has σ [(1, .slice aA args.length aC), (10, .pointer (some ⟨gR, 0, none⟩)), (39, .slice f.pA f.params.length f.pC), (40, .int .i64 f.params.length), (41, .int .i64 k)] ∧ blk g4 (.cells f.cells.toArray 43) :: runL { y0 with es := es, cl := cl } s0 = L) (n := f.params.length) ⟨0, #[], 0, rfl, Nat.zero_le _, fun e he => by simp at he, fun q => rfl, ⟨rfl, rfl, rfl, rfl, rfl, trivial⟩, by rw [hy0]⟩ ?_
  rintro _ σ L ⟨k, es, cl, rfl, hk, hall, hget, hs, rfl⟩
  refine Cd.has hs ?_
  clear hs
  refine Cd.seq ?_
  refine Cd.region ?_
  refine Ol.p lsi ?_
  refine Ol.nil ?_
  refine Cd.seq ?_
  refine Cd.cond rfl (fun h => ?_) (fun h => ?_)   -- $42
  · have hlt : k < f.params.length := by
      simp only [decide_eq_true_eq] at h; omega
    obtain ⟨p, hpk⟩ : ∃ p, f.params[k]? = some p := ⟨_, List.getElem?_eq_getElem hlt⟩
    obtain ⟨a, hak⟩ : ∃ a, args[k]? = some a := ⟨_, List.getElem?_eq_getElem (by omega)⟩
    have hz : (f.params.zip args)[k]? = some (p, a) := List.getElem?_zip_eq_some.2 ⟨hpk, hak⟩
    refine Cd.skip ?_
    refine Cd.seq ?_
    refine Cd.block ?_   -- 1
    refine Cd.seq ?_
    refine Cd.region ?_
    refine Ol.p mvi ?_
    refine Ol.p (ixn1 (ix := k) sl_L_int (Som.slc hf.params (by omega))) ?_
    refine Ol.p (ld one_int (Rd.slc hf.params (ints_at hpk))) ?_
    refine Ol.p asi ?_
    refine Ol.p asi ?_
    refine Ol.nil ?_
    subst hy0
    refine Cd.draw mixed 9 (fun _ => none) (fun _ => []) (by kernel_rfl) (fun _ _ h => by cases h) (fun u hu => ?_)
    refine Wk.p mvp ?_
    refine Wk.p nlc ?_
    refine Wk.p (fdl fd_run_Run_0) ?_
    refine Wk.p (ld (v := .map (some gM)) one_run_vars (Rd.blk (i := 1) rfl rfl)) ?_
    refine Wk.p mvi ?_
    refine Wk.p mvs ?_
    refine Wk.p mvi ?_
    refine Wk.p (ixn1 (ix := k) sl_L_int (Som.slc ha (by omega))) ?_
    refine Wk.p (ld one_int (Rd.slc ha (ints_at hak))) ?_
    refine Wk.nil ?_
    refine Ol.x (upm (v := .int .i64 a) mt_run_vars (i := 2) rfl hall rfl) ?_
    rintro _ _ ⟨es', cl', rfl, hall', hget'⟩
    refine Ol.nil ?_
    refine Cd.region ?_
    refine Ol.p addi ?_
    refine Ol.p mvi ?_
    refine Ol.nil ?_
    refine ⟨f.params.length - (k + 1), by omega, k + 1, es', cl', rfl, by omega, hall', fun q => ?_, ⟨rfl, rfl, rfl, rfl, rfl, trivial⟩, rfl⟩
    rw [hget', hget, take_snoc_ hz, begV_snoc]
    unfold updI
    by_cases hq : q = p
    · simp [hq]
    · simp [hq]
  have hke : k = f.params.length := by
    simp only [decide_eq_false_iff_not] at h; omega
  refine Cd.exit (id := 0) ?_
  refine Cd.seq ?_
  refine Cd.region ?_
  refine Ol.p mvp ?_
  refine Ol.p asp ?_
  refine Ol.p asi ?_
  refine Ol.nil ?_
  refine Cd.ret ⟨.tuple #[.pointer (some ⟨gR, 0, none⟩), .int .i64 0], ret2 rfl rfl rfl, _, .sub (.cons _ (List.Sublist.refl _)), .inl ⟨⟨hr0, hapl, hm64⟩, { y0 with es := es, cl := cl }, by rw [hy0]; exact hgb, fun w1 B1 => ⟨hall, fun q => ?_, by rw [hy0]; rfl, ?_, ?_⟩, by rw [hy0], by rw [hs0]; rfl⟩⟩
  · rw [hget, List.take_of_length_le (by rw [hke, List.length_zip]; omega)]
    rfl
  · rw [hy0]
    exact RdS.row (i := 0) rfl
  · rw [hy0]
    exact hcap
end
end Go.Proofs.Ytcojedoejpcolaa

/- The package run: what a run of a right function keeps to: plain laws. -/
namespace Go.Proofs.Ytcojedoejpcolaa
set_option linter.unusedVariables false
open Go Go.RowKit

/-- A function whose blocks end whole, in blocks, with lists that are not endless. -/
structure Fine (g : RFun) : Prop where
  blk : 0 < g.blocks.length
  term : ∀ b ∈ g.blocks, isTerm b.term = true ∧ ∀ n ∈ toL b.term, 1 ≤ n ∧ n < (g.blocks.length : Int)
  ins : ∀ b ∈ g.blocks, b.ins.length ≤ 64
  args : ∀ b ∈ g.blocks, ∀ i ∈ b.ins, i.args.length < 2 ^ 43
theorem Fine.of {f : RFun} (h : rightF f = 0) (ha : ∀ b ∈ f.blocks, ∀ i ∈ b.ins, i.args.length < 2 ^ 43) : Fine f := by
  obtain ⟨h1, h2, _, h4, h5⟩ := rightF_iff.1 h
  obtain ⟨h6, h7, h8, h9⟩ := long_parts h1
  refine ⟨h6, fun b hb => ⟨?_, fun n hn => ?_⟩, h9, ha⟩
  · unfold wholeF at h2
    simp only [Bool.and_eq_true, List.all_eq_true] at h2
    have := h2.2 b hb
    unfold wholeB at this
    simp only [Bool.and_eq_true] at this
    exact this.1
  · have h3' := (rightF_iff.1 h).2.2.1
    unfold okEs at h3'
    simp only [List.all_eq_true, Bool.and_eq_true, decide_eq_true_eq] at h3'
    have := h3' b.term (List.mem_map_of_mem hb) n hn
    simpa [RFun.terms] using this
theorem Fine.bare {f g : RFun} (h : Fine f) (e : g.bare = f.bare) : Fine g := by
  have hbl : g.blocks.map RBlk.bare = f.blocks.map RBlk.bare := congrArg RFun.blocks e
  have hlen : g.blocks.length = f.blocks.length := by
    have := congrArg List.length hbl
    simpa using this
  have key : ∀ b ∈ g.blocks, ∃ b' ∈ f.blocks, b'.bare = b.bare := fun b hb => by
    have : b.bare ∈ f.blocks.map RBlk.bare := by rw [← hbl]; exact List.mem_map_of_mem hb
    obtain ⟨b', h1, h2⟩ := List.mem_map.1 this
    exact ⟨b', h1, h2⟩
  refine ⟨by rw [hlen]; exact h.blk, fun b hb => ?_, fun b hb => ?_, fun b hb i hi => ?_⟩
  · obtain ⟨b', h1, h2⟩ := key b hb
    have ht : b'.term = b.term := (congrArg RBlk.term h2 : b'.bare.term = b.bare.term)
    rw [← ht, hlen]
    exact h.term b' h1
  · obtain ⟨b', h1, h2⟩ := key b hb
    have hl : b'.ins.length = b.ins.length := by
      have := congrArg (fun x => x.ins.length) h2
      simpa [RBlk.bare] using this
    rw [← hl]
    exact h.ins b' h1
  · obtain ⟨b', h1, h2⟩ := key b hb
    have hl : b'.ins.map RIns.bare = b.ins.map RIns.bare := (congrArg RBlk.ins h2 : b'.bare.ins = b.bare.ins)
    have : i.bare ∈ b'.ins.map RIns.bare := by rw [hl]; exact List.mem_map_of_mem hi
    obtain ⟨i', h3, h4⟩ := List.mem_map.1 this
    have ha : i'.args = i.args := (congrArg RIns.args h4 : i'.bare.args = i.bare.args)
    rw [← ha]
    exact h.args b' h1 i' h3
/-- A run as it may be after so many steps. -/
structure Runs (g : RFun) (s : RSt) (n : Nat) : Prop where
  stand : s.e = 0 → ∃ b, g.blocks[s.b]? = some b ∧ s.i ≤ b.ins.length
  steps : s.steps ≤ n
  calls : s.calls.length ≤ n
  args : ∀ c ∈ s.calls, c.2.length < 2 ^ 43
  mem : s.mem.length ≤ 64
theorem insV_keeps (s : RSt) (i : RIns) : (insV s i).1.e = s.e ∧ (insV s i).1.steps = s.steps ∧ (insV s i).1.mem.length = s.mem.length ∧ ((insV s i).1.calls = s.calls ∨ (insV s i).1.calls = s.calls ++ [(i.callee, i.args.map s.get)]) := by
  unfold insV
  split
  · exact ⟨rfl, rfl, rfl, .inl rfl⟩
  split
  · exact ⟨rfl, rfl, rfl, .inl rfl⟩
  split
  · unfold callF; split <;> exact ⟨rfl, rfl, rfl, .inr rfl⟩
  split
  · unfold memF
    split
    · exact ⟨rfl, rfl, rfl, .inl rfl⟩
    split
    · exact ⟨rfl, rfl, by simp, .inl rfl⟩
    exact ⟨rfl, rfl, rfl, .inl rfl⟩
  exact ⟨rfl, rfl, rfl, .inl rfl⟩
theorem insF_keeps (s : RSt) (i : RIns) : (insF s i).1.e = s.e ∧ (insF s i).1.steps = s.steps ∧ (insF s i).1.mem.length = s.mem.length ∧ ((insF s i).1.calls = s.calls ∨ (insF s i).1.calls = s.calls ++ [(i.callee, i.args.map s.get)]) := by
  have h := insV_keeps s i
  unfold insF
  split
  · show (insS (insV s i).1 i (insV s i).2.1).e = _ ∧ (insS (insV s i).1 i (insV s i).2.1).steps = _ ∧ (insS (insV s i).1 i (insV s i).2.1).mem.length = _ ∧ ((insS (insV s i).1 i (insV s i).2.1).calls = _ ∨ (insS (insV s i).1 i (insV s i).2.1).calls = _)
    unfold insS
    split <;> exact h
  · exact h
theorem stepB_keeps (s : RSt) (b : RBlk) : (stepB s b).1.e = s.e ∧ (stepB s b).1.steps = s.steps + 1 ∧ (stepB s b).1.mem.length = s.mem.length ∧ ((stepB s b).1.calls = s.calls ∨ ∃ i ∈ b.ins, (stepB s b).1.calls = s.calls ++ [(i.callee, i.args.map s.get)]) := by
  unfold stepB
  split
  · rename_i i hi
    have h := insF_keeps (tick s) i
    refine ⟨h.1, h.2.1, h.2.2.1, ?_⟩
    rcases h.2.2.2 with h | h
    · exact .inl h
    · exact .inr ⟨i, List.mem_of_getElem? hi, h⟩
  · exact ⟨rfl, rfl, rfl, .inl rfl⟩
theorem termF_spot {s : RSt} {t : Tm} {bb ii : Int} (ht : isTerm t = true) (h : termF s t = .spot bb ii) : ii = 0 ∧ bb ∈ toL t := by
  unfold termF at h
  split at h
  · cases h
  split at h
  · cases h
  rename_i h3 h4
  have hk : t.kind = 1 ∨ t.kind = 2 := by
    unfold isTerm at ht
    by_cases h1 : t.kind = 1
    · exact .inl h1
    by_cases h2 : t.kind = 2
    · exact .inr h2
    simp [h1, h2, h3, h4] at ht
  split at h
  · rename_i hc
    injection h with e1 e2
    refine ⟨e2.symm, ?_⟩
    unfold toL
    rw [ht, ← e1]
    simp [hc.1]
  · injection h with e1 e2
    refine ⟨e2.symm, ?_⟩
    unfold toL
    rw [ht, ← e1]
    rcases hk with hk | hk <;> simp [hk]
theorem insF_spot {s : RSt} {i : RIns} {bb ii : Int} (h : (insF s i).2 = .spot bb ii) : bb = s.b ∧ ii = (s.i : Int) + 1 := by
  have hv := insV_spot s i
  unfold insF at h
  split at h
  · injection h with e1 e2
    rw [← e1, ← e2, hv.1, hv.2]
    exact ⟨rfl, rfl⟩
  · cases h
theorem insF_done {s : RSt} {i : RIns} {e v : Int} (h : (insF s i).2 = .done e v) : e = 2 := by
  unfold insF at h
  split at h
  · cases h
  · injection h with e1; exact e1.symm
theorem termF_done {s : RSt} {t : Tm} {e v : Int} (h : termF s t = .done e v) : e = 1 ∨ e = 2 := by
  unfold termF at h
  split at h
  · injection h with e1; exact .inl e1.symm
  split at h
  · injection h with e1; exact .inr e1.symm
  split at h <;> cases h
theorem stepB_spot {g : RFun} {s : RSt} {b : RBlk} (hF : Fine g) (hb : g.blocks[s.b]? = some b) (hi : s.i ≤ b.ins.length) {bb ii : Int} (h : (stepB s b).2 = .spot bb ii) : 0 ≤ bb ∧ 0 ≤ ii ∧ ∃ b', g.blocks[bb.toNat]? = some b' ∧ ii.toNat ≤ b'.ins.length := by
  unfold stepB at h
  split at h
  · rename_i i hgi
    obtain ⟨e1, e2⟩ := insF_spot h
    have hlt : s.i < b.ins.length := (List.getElem?_eq_some_iff.1 hgi).1
    have e3 : (tick s).b = s.b := rfl
    have e4 : (tick s).i = s.i := rfl
    rw [e3] at e1
    rw [e4] at e2
    refine ⟨by omega, by omega, b, ?_, by omega⟩
    rw [show bb.toNat = s.b by omega]
    exact hb
  · have hbm := List.mem_of_getElem? hb
    obtain ⟨e1, e2⟩ := termF_spot (hF.term b hbm).1 h
    have := (hF.term b hbm).2 bb e2
    have hlt : bb.toNat < g.blocks.length := by omega
    exact ⟨by omega, by omega, _, List.getElem?_eq_getElem hlt, by rw [e1]; exact Nat.zero_le _⟩
theorem stepB_done {s : RSt} {b : RBlk} {e v : Int} (h : (stepB s b).2 = .done e v) : e = 1 ∨ e = 2 := by
  unfold stepB at h
  split at h
  · exact .inr (insF_done h)
  · exact termF_done h
theorem Runs.step {g : RFun} {s : RSt} {n : Nat} (hF : Fine g) (h : Runs g s n) (he : s.e = 0) : Runs g (stepR g s) (n + 1) := by
  obtain ⟨b, hb, hi⟩ := h.stand he
  have hS : stepR g s = nxS (stepB s b).1 (stepB s b).2 := by unfold stepR; rw [hb]
  obtain ⟨k1, k2, k3, k4⟩ := stepB_keeps s b
  have hc : (stepB s b).1.calls.length ≤ n + 1 ∧ ∀ c ∈ (stepB s b).1.calls, c.2.length < 2 ^ 43 := by
    rcases k4 with k4 | ⟨i, him, k4⟩
    · rw [k4]; exact ⟨by have := h.calls; omega, h.args⟩
    · rw [k4]
      refine ⟨by have := h.calls; simp; omega, fun c hc => ?_⟩
      rcases List.mem_append.1 hc with hc | hc
      · exact h.args c hc
      · have := List.mem_singleton.1 hc
        rw [this]
        simpa using hF.args b (List.mem_of_getElem? hb) i him
  have h1 := h.steps
  have h2 := h.mem
  rw [hS]
  cases hx : (stepB s b).2 with
  | spot bb ii =>
    obtain ⟨_, _, h3⟩ := stepB_spot hF hb hi hx
    exact ⟨fun _ => h3, by show (stepB s b).1.steps ≤ _; omega, hc.1, hc.2, by show (stepB s b).1.mem.length ≤ _; omega⟩
  | done e v =>
    refine ⟨fun h0 => ?_, by show (stepB s b).1.steps ≤ _; omega, hc.1, hc.2, by show (stepB s b).1.mem.length ≤ _; omega⟩
    have h0' : e = 0 := h0
    rcases stepB_done hx with h | h <;> omega
/-- A run goes on so many steps, while it stands. -/
def goS (g : RFun) (s : RSt) : Nat → RSt
  | 0 => s
  | n + 1 => if s.e = 0 then goS g (stepR g s) n else s
theorem goS_end {g : RFun} {s : RSt} (h : s.e ≠ 0) (n : Nat) : goS g s n = s := by
  cases n with
  | zero => rfl
  | succ n => exact if_neg h
theorem Runs.go {g : RFun} (hF : Fine g) : ∀ (n : Nat) {s : RSt} {k : Nat}, Runs g s k → Runs g (goS g s n) (k + n)
  | 0, s, k, h => h
  | n + 1, s, k, h => by
    unfold goS
    split
    · rename_i he
      have := Runs.go hF n (h.step hF he)
      rwa [Nat.add_right_comm, Nat.add_assoc] at this
    · exact ⟨h.stand, by have := h.steps; omega, by have := h.calls; omega, h.args, h.mem⟩
theorem insV_bare (s : RSt) (i : RIns) : insV s i.bare = insV s i := rfl
theorem stepB_bare (s : RSt) (b : RBlk) : stepB s b.bare = stepB s b := by
  unfold stepB RBlk.bare
  simp only [List.getElem?_map]
  cases b.ins[s.i]? <;> rfl
theorem stepR_bare (g : RFun) (s : RSt) : stepR g.bare s = stepR g s := by
  unfold stepR RFun.bare
  simp only [List.getElem?_map]
  cases g.blocks[s.b]? with
  | none => rfl
  | some b => show nxS (stepB s b.bare).1 (stepB s b.bare).2 = _; rw [stepB_bare]
theorem goS_bare (g : RFun) : ∀ (n : Nat) (s : RSt), goS g.bare s n = goS g s n
  | 0, s => rfl
  | n + 1, s => by
    unfold goS
    rw [stepR_bare, goS_bare g n]
theorem goS_same {f g : RFun} (e : g.bare = f.bare) (s : RSt) (n : Nat) : goS g s n = goS f s n := by rw [← goS_bare g, e, goS_bare f]
theorem Runs.beg {f g : RFun} {args mem ans : List Int} (hF : Fine g) (hm : mem.length ≤ 64) : Runs g (begS f args mem ans) 0 := by
  refine ⟨fun _ => ?_, Nat.le_refl _, Nat.le_refl _, fun c hc => absurd hc (List.not_mem_nil), hm⟩
  exact ⟨_, List.getElem?_eq_getElem hF.blk, Nat.zero_le _⟩
end Go.Proofs.Ytcojedoejpcolaa

/- The package run: a run at once, walked. -/
namespace Go.Proofs.Ytcojedoejpcolaa
set_option linter.unusedVariables false
open Go Go.RowKit
set_option maxRecDepth 100000

section
theorem run_Step_end_cm {w0 : World} {B : Nat} {y : RLay} {s : RSt} (he : s.e ≠ 0) :
    Cm Try.prog 51 #[.pointer (some ⟨y.gR, 0, none⟩)] w0 B (runL y s) (fun v L => v = .bool false ∧ L = runL y s) := by
  refine Cm.mk Try.func51 rfl rfl fun M => ?_
  refine Cd.seq ?_
  refine Cd.region ?_
  refine Ol.p asb ?_
  refine Ol.nil ?_
  refine Cd.seq ?_
  refine Cd.seq ?_
  have h2 : (some (⟨y.gR, 0, none⟩ : Addr)).isNone = false := rfl
  have h9 : (some y.gM).isNone = false := rfl
  refine Cd.region ?_
  refine Ol.p mvp ?_
  refine Ol.p (epn pt_P_run_Run) ?_
  refine Ol.p mvb ?_
  refine Ol.gp h2 mvp ?_
  refine Ol.gp h2 nlc ?_
  refine Ol.gp h2 (fdl fd_run_Run_0) ?_
  refine Ol.gp h2 (ld (v := .map (some y.gM)) one_run_vars (Rd.blk (i := 0) rfl rfl)) ?_
  refine Ol.gp h2 (emn mp_run_vars) ?_
  refine Ol.p (pkFb h2) ?_
  refine Ol.p mvb ?_
  refine Ol.gp h9 mvp ?_
  refine Ol.gp h9 nlc ?_
  refine Ol.gp h9 (fdl fd_run_Run_2) ?_
  refine Ol.gp h9 (fdl fd_run_done_0) ?_
  refine Ol.gp h9 (ld (v := .int .i64 s.e) one_api_EndKind (Rd.blk (i := 0) rfl rfl)) ?_
  refine Ol.gp h9 nei ?_
  refine Ol.p (pkFb h9) ?_
  refine Ol.nil ?_
  refine Cd.cond rfl (fun h => ?_) (fun h => absurd (by simpa using h) he)   -- $23
  refine Cd.seq ?_
  refine Cd.region ?_
  refine Ol.p asb ?_
  refine Ol.nil ?_
  exact Cd.ret ⟨.bool false, ret1 rfl rfl, _, .all, rfl, rfl⟩
end
section
def noRes : Value := .agg #[.int .i64 0, .int .i64 0, .slice none 0 0, .slice none 0 0, .int .i64 0]
def GoR (f : RFun) (args mem ans : List Int) (n : Int) : Value → List Res → Prop := fun v R =>
  (okB f args mem ∧ n ≤ 20000 ∧ ∃ z : RRes, z.of (goS f (begS f args mem ans) n.toNat) ∧ v = .tuple #[.agg z.cells.toArray, .int .i64 0] ∧ R.Perm z.res) ∨
  (¬ okB f args mem ∧ v = .tuple #[noRes, .int .i64 2] ∧ R = []) ∨ (okB f args mem ∧ 20000 < n ∧ v = .tuple #[noRes, .int .i64 3] ∧ R = [])
set_option maxHeartbeats 4000000 in
theorem run_Go_ct {w : World} {f : RFun} {aA mA nA : Option Addr} {aC mC nC : Nat} {args mem ans : List Int} {n : Int} (hf : FunAt w w.heap.size f) (hfit : Fit f) (hp : f.params.length < 2 ^ 43) (hl : BlksIn w w.heap.size f.bA f.blocks) (hal : ∀ b ∈ f.blocks, ∀ i ∈ b.ins, i.args.length < 2 ^ 43)
    (ha : Reads w w.heap.size 1 aA args.length (ints args)) (hm : Reads w w.heap.size 1 mA mem.length (ints mem)) (hn : Reads w w.heap.size 1 nA ans.length (ints ans)) (hml : mem.length < 2 ^ 43) (hnl : ans.length < 2 ^ 43) :
    Ct Try.prog 46 #[f.val, .slice aA args.length aC, .slice mA mem.length mC, .slice nA ans.length nC, .int .i64 n] w (GoR f args mem ans n) := by
  refine Ct.mk Try.func46 rfl rfl ?_
  refine Cd.seq ?_
  refine Cd.region ?_
  refine Ol.x bxg ?_
  rintro _ _ ⟨g5, rfl, rfl⟩
  refine Ol.x (alc zr_run_Result) ?_
  rintro _ _ ⟨g10, rfl, rfl⟩
  refine Ol.p asi ?_
  refine Ol.nil ?_
  refine Cd.seq ?_
  refine Cd.region ?_
  refine Ol.p (ldw (cs := f.cells.toArray) ag_api_Func (i := 1) rfl rfl) ?_
  refine Ol.p mvs ?_
  refine Ol.p mvs ?_
  refine Ol.p mvs ?_
  refine Ol.x (sp_call en_run_Begin (fun M w' hh => run_Begin_ct (args := args) (mem := mem) (ans := ans) (hf.now hh) hfit hp (hl.now hh) hal (ha.now hh) (hm.now hh) (hn.now hh) hml hnl)) ?_
  rintro _ _ ⟨R, rfl, hR⟩
  rcases hR with ⟨hok, y, hgb, hro, rfl, rfl⟩ | ⟨hno, rfl, rfl⟩
  rotate_left
  · skip
    refine Ol.p mvt ?_
    refine Ol.p extv ?_
    refine Ol.p extv ?_
    refine Ol.p asp ?_
    refine Ol.p asi ?_
    refine Ol.nil ?_
    refine Cd.seq ?_
    refine Cd.block ?_   -- 0
    refine Cd.seq ?_
    refine Cd.region ?_
    refine Ol.p mvi ?_
    refine Ol.p nei ?_
    refine Ol.p asb ?_
    refine Ol.nil ?_
    refine Cd.cond rfl (fun h => ?_) (fun h => nomatch h)   -- $21
    refine Cd.seq ?_
    refine Cd.region ?_
    refine Ol.p (ldw (cs := #[.int .i64 0, .int .i64 0, .slice none 0 0, .slice none 0 0, .int .i64 0]) ag_run_Result (i := 0) rfl rfl) ?_
    refine Ol.p mvi ?_
    refine Ol.s (stw (vs := #[.int .i64 0, .int .i64 0, .slice none 0 0, .slice none 0 0, .int .i64 0]) sz_run_Result rfl (by intro u hu; simp at hu; rcases hu with rfl | rfl | rfl <;> rfl) (i := 0) rfl rfl) ?_
    refine Ol.p asi ?_
    refine Ol.nil ?_
    exact Cd.ret ⟨.tuple #[noRes, .int .i64 2], retct rfl ag_run_Result rfl rfl (i := 0) rfl rfl, [], Keep.nil, .inr (.inl ⟨hno, rfl, rfl⟩)⟩
  refine Ol.p mvt ?_
  refine Ol.p extv ?_
  refine Ol.p extv ?_
  refine Ol.p asp ?_
  refine Ol.p asi ?_
  refine Ol.nil ?_
  refine Cd.keep Keep.comm ?_
  refine Cd.seq ?_
  refine Cd.block ?_   -- 0
  refine Cd.seq ?_
  refine Cd.region ?_
  refine Ol.p mvi ?_
  refine Ol.p nei ?_
  refine Ol.p asb ?_
  refine Ol.nil ?_
  refine Cd.cond rfl (fun h => nomatch h) (fun h => ?_)   -- $21
  refine Cd.seq ?_
  refine Cd.region ?_
  refine Ol.p mvi ?_
  refine Ol.p gti ?_
  refine Ol.p asb ?_
  refine Ol.nil ?_
  refine Cd.cond rfl (fun h => ?_) (fun h => ?_)   -- $26
  · have hlong : 20000 < n := of_decide_eq_true h
    refine Cd.seq ?_
    refine Cd.region ?_
    refine Ol.p (ldw (cs := #[.int .i64 0, .int .i64 0, .slice none 0 0, .slice none 0 0, .int .i64 0]) ag_run_Result (i := 0) rfl rfl) ?_
    refine Ol.s (stw (vs := #[.int .i64 0, .int .i64 0, .slice none 0 0, .slice none 0 0, .int .i64 0]) sz_run_Result rfl (by intro u hu; simp at hu; rcases hu with rfl | rfl | rfl <;> rfl) (i := 0) rfl rfl) ?_
    refine Ol.p asi ?_
    refine Ol.nil ?_
    exact Cd.ret ⟨.tuple #[noRes, .int .i64 3], retct rfl ag_run_Result rfl rfl (i := 0) rfl rfl, [], Keep.nil, .inr (.inr ⟨hok, hlong, rfl, rfl⟩)⟩
  have hn20 : n ≤ 20000 := by
    have : ¬ 20000 < n := of_decide_eq_false h
    omega
  have hF : Fine y.g := (Fine.of hok.1 hal).bare hgb
  have hRuns : Runs y.g (begS f args mem ans) 0 := Runs.beg hF hok.2.2
  refine Cd.skip ?_
  refine Cd.mid (fun σ' L' => ∃ (y' : RLay) (s : RSt), y'.gR = y.gR ∧ y'.g = y.g ∧ RunOk w w.heap.size y' s ∧ Runs y.g s 20000 ∧ s = goS y.g (begS f args mem ans) n.toNat ∧ Has σ' [(10, .pointer (some ⟨g10, 0, none⟩)), (12, .pointer (some ⟨y.gR, 0, none⟩))] ∧ [blk g10 (.cells #[.int .i64 0, .int .i64 0, .slice none 0 0, .slice none 0 0, .int .i64 0] 67), blk g5 (.cells f.cells.toArray 43)] ++ runL y' s = L') ?_ ?_
  · refine Cd.seq ?_
    refine Cd.region ?_
    refine Ol.p mvi ?_
    refine Ol.p mvi ?_
    refine Ol.nil ?_
    refine Cd.block ?_   -- 1
    refine Cd.loop (fun m σ L => ∃ (k : Nat) (y' : RLay) (s : RSt), m = n.toNat - k ∧ k ≤ n.toNat ∧ y'.gR = y.gR ∧ y'.g = y.g ∧ RunOk w w.heap.size y' s ∧ Runs y.g s k ∧ goS y.g s (n.toNat - k) = goS y.g (begS f args mem ans) n.toNat ∧ Has σ [(10, .pointer (some ⟨g10, 0, none⟩)), (12, .pointer (some ⟨y.gR, 0, none⟩)), (30, .int .i64 n), (31, .int .i64 k)] ∧ [blk g10 (.cells #[.int .i64 0, .int .i64 0, .slice none 0 0, .slice none 0 0, .int .i64 0] 67), blk g5 (.cells f.cells.toArray 43)] ++ runL y' s = L) (n := n.toNat) ⟨0, y, begS f args mem ans, rfl, Nat.zero_le _, rfl, rfl, hro _ _, hRuns, rfl, ⟨rfl, rfl, rfl, rfl, trivial⟩, rfl⟩ ?_
    rintro _ σ L ⟨k, y', s, rfl, hk, hg1, hg2, hro', hR', hgo, hs, rfl⟩
    rw [← hg1] at hs
    refine Cd.has hs ?_
    clear hs
    have hst := hR'.steps
    have hcl := hR'.calls
    have hml' := hR'.mem
    refine Cd.seq ?_
    refine Cd.region ?_
    refine Ol.p lsi ?_
    refine Ol.nil ?_
    refine Cd.seq ?_
    refine Cd.cond rfl (fun h => ?_) (fun h => ?_)   -- $32
    · have hlt : k < n.toNat := by
        have : (k : Int) < n := of_decide_eq_true h
        omega
      refine Cd.skip ?_
      refine Cd.seq ?_
      refine Cd.block ?_   -- 2
      refine Cd.seq ?_
      by_cases he : s.e = 0
      · obtain ⟨b, hb, hi⟩ := hR'.stand he
        have hbm := List.mem_of_getElem? hb
        have hi64 := hF.ins b hbm
        refine Cd.region ?_
        refine Ol.p mvp ?_
        refine Ol.x (sp_callm (vs := [.pointer (some ⟨y'.gR, 0, none⟩)]) (Lin := runL y' s) (L2 := [blk g10 (.cells #[.int .i64 0, .int .i64 0, .slice none 0 0, .slice none 0 0, .int .i64 0] 67), blk g5 (.cells f.cells.toArray 43)]) (R := RunTo w w.heap.size y' (stepR y'.g s) (.bool true)) en_P_run_Run_Step (List.perm_append_comm (l₁ := [_, _])) (run_Step_cm hro' he (hg2 ▸ hb) hi (by omega) (fun i hi => Nat.lt_trans (hF.args b hbm i hi) (by decide)) (fun bb ii hx => by obtain ⟨h1, h2, _⟩ := stepB_spot hF hb hi hx; exact ⟨h1, h2⟩) (by omega) (by omega) (by omega))) ?_
        rintro _ _ ⟨_, rfl, rfl, y2, hg3, hg4, hro2, rfl⟩
        refine Ol.keep Keep.comm ?_
        refine Ol.p noti ?_
        refine Ol.nil ?_
        refine Cd.cond rfl (fun h => nomatch h) (fun h => ?_)   -- $35
        refine Cd.skip ?_
        refine Cd.region ?_
        refine Ol.p addi ?_
        refine Ol.p mvi ?_
        refine Ol.nil ?_
        rw [hg2] at hro2
        refine ⟨n.toNat - (k + 1), by omega, k + 1, y2, stepR y.g s, rfl, by omega, hg3.trans hg1, hg4.trans hg2, hro2, hR'.step hF he, ?_, ⟨rfl, by rw [← hg1]; rfl, rfl, rfl, trivial⟩, by rw [hg2]⟩
        rw [← hgo, show n.toNat - k = (n.toNat - (k + 1)) + 1 by omega]
        show _ = if s.e = 0 then _ else _
        rw [if_pos he]
      · skip
        refine Cd.region ?_
        refine Ol.p mvp ?_
        refine Ol.x (sp_callm (vs := [.pointer (some ⟨y'.gR, 0, none⟩)]) (Lin := runL y' s) (L2 := [blk g10 (.cells #[.int .i64 0, .int .i64 0, .slice none 0 0, .slice none 0 0, .int .i64 0] 67), blk g5 (.cells f.cells.toArray 43)]) (R := fun v L => v = .bool false ∧ L = runL y' s) en_P_run_Run_Step (List.perm_append_comm (l₁ := [_, _])) (run_Step_end_cm he)) ?_
        rintro _ _ ⟨_, rfl, rfl, rfl⟩
        refine Ol.keep Keep.comm ?_
        refine Ol.p noti ?_
        refine Ol.nil ?_
        refine Cd.cond rfl (fun h => ?_) (fun h => nomatch h)   -- $35
        refine Cd.exit (id := 1) ?_
        exact ⟨y', s, hg1, hg2, hro', ⟨hR'.stand, by omega, by omega, hR'.args, hR'.mem⟩, by rw [← hgo, goS_end he], ⟨rfl, by rw [← hg1]; rfl, trivial⟩, rfl⟩
    have hke : n.toNat - k = 0 := by
      have : ¬ (k : Int) < n := of_decide_eq_false h
      omega
    refine Cd.exit (id := 1) ?_
    exact ⟨y', s, hg1, hg2, hro', ⟨hR'.stand, by omega, by omega, hR'.args, hR'.mem⟩, by rw [← hgo, hke]; rfl, ⟨rfl, by rw [← hg1]; rfl, trivial⟩, rfl⟩
  rintro σ' _ ⟨y', s, hg1, hg2, hro', hR', hgo, hs', rfl⟩
  rw [← hg1] at hs'
  refine Cd.has hs' ?_
  have hst := hR'.steps
  have hcl := hR'.calls
  have hml' := hR'.mem
  have hra : ∀ r ∈ y'.recs, r.args.length < 2 ^ 43 := fun r hr => hR'.args (r.callee, r.args) (by rw [hro'.calls]; exact List.mem_map_of_mem hr)
  refine Cd.seq ?_
  refine Cd.region ?_
  refine Ol.p mvp ?_
  refine Ol.x (sp_callm (vs := [.pointer (some ⟨y'.gR, 0, none⟩)]) (Lin := runL y' s) (L2 := [blk g10 (.cells #[.int .i64 0, .int .i64 0, .slice none 0 0, .slice none 0 0, .int .i64 0] 67), blk g5 (.cells f.cells.toArray 43)]) (R := fun v L => ∃ z : RRes, z.of s ∧ v = .agg z.cells.toArray ∧ L.Perm (z.res ++ runL y' s)) en_P_run_Run_Result (List.perm_append_comm (l₁ := [_, _])) (run_Result_cm hro' (by omega) (by omega) hra)) ?_
  rintro _ _ ⟨T, rfl, z, hz, rfl, hT⟩
  refine Ol.keep (L' := [blk g10 (.cells #[.int .i64 0, .int .i64 0, .slice none 0 0, .slice none 0 0, .int .i64 0] 67), blk g5 (.cells f.cells.toArray 43)] ++ z.res) (keep_count (runL y' s) fun _ x => by
    have := hT.count_eq x
    simp only [List.count_append] at this ⊢
    omega) ?_
  refine Ol.s (stw (vs := z.cells.toArray) sz_run_Result rfl (by intro u hu; simp [RRes.cells] at hu; rcases hu with rfl | rfl | rfl | rfl | rfl <;> rfl) (i := 0) rfl rfl) ?_
  refine Ol.p asi ?_
  refine Ol.nil ?_
  refine Cd.ret ⟨.tuple #[.agg z.cells.toArray, .int .i64 0], retct rfl ag_run_Result rfl rfl (i := 0) rfl rfl, z.res, .sub (.cons _ (.cons _ (List.Sublist.refl _))), .inl ⟨hok, hn20, z, ?_, rfl, .refl _⟩⟩
  · rw [← goS_same hgb, ← hgo]
    exact hz
end
end Go.Proofs.Ytcojedoejpcolaa

/- The package flow: edges of blocks, the critical ones, walked. -/
namespace Go.Proofs.Ytcojedoejpcolaa
set_option linter.unusedVariables false
open Go Go.RowKit
set_option maxRecDepth 100000

/-- A cell of a block of one's own, in whatever is called later. -/
theorem Hp.keeps {w0 w w2 : World} {B i g k : Nat} {M L : List Res} {cs : Array Value} {e : TypeId} {fz : Nat × Nat} {v : Value} (hh : Hp w0 B (M ++ L) w) (hi : L[i]? = some (blk g (.cells cs e fz))) (hk : cs[k]? = some v) (hb : Below w.heap.size w w2) : w2.cell? ⟨g, k, none⟩ = some v := by
  have h1 := Rd.blk hi hk M w hh
  have hlt : g < w.heap.size := World.block_lt_of_cell? w _ h1
  exact (hb.cell (p := ⟨g, k, none⟩) hlt).trans h1
theorem Hp.keepsObj {w0 w w2 : World} {B i g : Nat} {M L : List Res} {o : Obj} (hh : Hp w0 B (M ++ L) w) (hi : L[i]? = some (blk g o)) (hb : Below w.heap.size w w2) : w2.heap[g]? = some o ∧ g < w2.heap.size := by
  have h1 : w.heap[g]? = some o := hh.at_ hi
  have hlt := (Array.getElem?_eq_some_iff.1 h1).1
  exact ⟨(hb.block g hlt).trans h1, Nat.lt_of_lt_of_le hlt hb.size⟩
section
theorem flow_Into_1_ct {w : World} {e : Ed} {g : Nat} {b : Int} (hc : w.cell? ⟨g, 0, none⟩ = some (.int .i64 b)) : Ct Try.prog 105 #[e.val, .pointer (some ⟨g, 0, none⟩)] w (Is (.bool (decide (e.to = b)))) := by
  have hlt : g < w.heap.size := World.block_lt_of_cell? w _ hc
  refine Ct.mk Try.func105 rfl rfl ?_
  refine Cd.seq ?_
  refine Cd.region ?_
  refine Ol.x bxg ?_
  rintro _ _ ⟨g2, rfl, rfl⟩
  refine Ol.p asb ?_
  refine Ol.nil ?_
  refine Cd.seq ?_
  refine Cd.region ?_
  refine Ol.p (fdl fd_api_Edge_2) ?_
  refine Ol.p (ld one_int (Rd.blk (i := 0) rfl rfl)) ?_
  refine Ol.p (ld one_int (Rd.inp hlt hc)) ?_
  refine Ol.p eqi ?_
  refine Ol.p asb ?_
  refine Ol.nil ?_
  refine Cd.ret ⟨.bool _, ret1 rfl rfl, [], .nil, rfl, rfl⟩
theorem flow_Into_ct {w : World} {f : RFun} {b : Int} (hf : FunAt w w.heap.size f) (hfit : Fit f) : Ct Try.prog 58 #[f.val, .int .i64 b] w (NewL 85 3 (someE f.terms fun e => decide (e.to = b)).length (edV (someE f.terms fun e => decide (e.to = b)))) := by
  refine Ct.mk Try.func58 rfl rfl ?_
  refine Cd.seq ?_
  refine Cd.region ?_
  refine Ol.x bxg ?_
  rintro _ _ ⟨g2, rfl, rfl⟩
  refine Ol.x bxi ?_
  rintro _ _ ⟨g3, rfl, rfl⟩
  refine Ol.p ass ?_
  refine Ol.nil ?_
  refine Cd.seq ?_
  refine Cd.region ?_
  refine Ol.p (ldw ag_api_Func (i := 1) rfl rfl) ?_
  refine Ol.p mkf ?_
  refine Ol.x (sp_call en_flow_some (fun M w' hh => flow_some_ct (g := 105) (fst := #[]) (cap := #[.pointer (some ⟨g3, 0, none⟩)]) (p := fun e => decide (e.to = b)) (hf.now hh) hfit ⟨en_flow_Into_1, fun e he w2 h2 => flow_Into_1_ct (Hp.keeps hh (i := 0) rfl rfl h2)⟩)) ?_
  rintro _ _ ⟨_, rfl, A, c, rfl, rfl⟩
  refine Ol.p ass ?_
  refine Ol.nil ?_
  refine Cd.ret ⟨.slice _ _ _, ret1 rfl rfl, _, .sub (.cons_cons _ (.cons _ (.cons _ .slnil))), A, c, rfl, rfl⟩
end
section
theorem flow_From_1_ct {w : World} {e : Ed} {g : Nat} {b : Int} (hc : w.cell? ⟨g, 0, none⟩ = some (.int .i64 b)) : Ct Try.prog 109 #[e.val, .pointer (some ⟨g, 0, none⟩)] w (Is (.bool (decide (e.src = b)))) := by
  have hlt : g < w.heap.size := World.block_lt_of_cell? w _ hc
  refine Ct.mk Try.func109 rfl rfl ?_
  refine Cd.seq ?_
  refine Cd.region ?_
  refine Ol.x bxg ?_
  rintro _ _ ⟨g2, rfl, rfl⟩
  refine Ol.p asb ?_
  refine Ol.nil ?_
  refine Cd.seq ?_
  refine Cd.region ?_
  refine Ol.p (fdl fd_api_Edge_0) ?_
  refine Ol.p (ld one_int (Rd.blk (i := 0) rfl rfl)) ?_
  refine Ol.p (ld one_int (Rd.inp hlt hc)) ?_
  refine Ol.p eqi ?_
  refine Ol.p asb ?_
  refine Ol.nil ?_
  refine Cd.ret ⟨.bool _, ret1 rfl rfl, [], .nil, rfl, rfl⟩
theorem flow_From_ct {w : World} {f : RFun} {b : Int} (hf : FunAt w w.heap.size f) (hfit : Fit f) : Ct Try.prog 62 #[f.val, .int .i64 b] w (NewL 85 3 (someE f.terms fun e => decide (e.src = b)).length (edV (someE f.terms fun e => decide (e.src = b)))) := by
  refine Ct.mk Try.func62 rfl rfl ?_
  refine Cd.seq ?_
  refine Cd.region ?_
  refine Ol.x bxg ?_
  rintro _ _ ⟨g2, rfl, rfl⟩
  refine Ol.x bxi ?_
  rintro _ _ ⟨g3, rfl, rfl⟩
  refine Ol.p ass ?_
  refine Ol.nil ?_
  refine Cd.seq ?_
  refine Cd.region ?_
  refine Ol.p (ldw ag_api_Func (i := 1) rfl rfl) ?_
  refine Ol.p mkf ?_
  refine Ol.x (sp_call en_flow_some (fun M w' hh => flow_some_ct (g := 109) (fst := #[]) (cap := #[.pointer (some ⟨g3, 0, none⟩)]) (p := fun e => decide (e.src = b)) (hf.now hh) hfit ⟨en_flow_From_1, fun e he w2 h2 => flow_From_1_ct (Hp.keeps hh (i := 0) rfl rfl h2)⟩)) ?_
  rintro _ _ ⟨_, rfl, A, c, rfl, rfl⟩
  refine Ol.p ass ?_
  refine Ol.nil ?_
  refine Cd.ret ⟨.slice _ _ _, ret1 rfl rfl, _, .sub (.cons_cons _ (.cons _ (.cons _ .slnil))), A, c, rfl, rfl⟩
end

/-- How often a number stands among some. -/
def cnt (l : List Int) (n : Int) : Nat := l.count n
/-- Is an edge critical: one of more out of its block, one of more into its block? -/
def critE (ts : List Tm) (e : Ed) : Bool := decide (1 < cnt ((edges ts).map Ed.to) e.to) && decide (1 < cnt ((edges ts).map Ed.src) e.src)
/-- A map that counts. -/
def Cnts (es : List MapEntry) (l : List Int) : Prop := AllI es ∧ ∀ n, (mget es n).getD (.int .i64 0) = .int .i64 (cnt l n : Int)
theorem Cnts.nil : Cnts [] [] := ⟨fun e h => (by cases h), fun n => by simp [mget, cnt]⟩
theorem Cnts.snoc {es es' : List MapEntry} {l : List Int} {k : Int} (h : Cnts es l) (ha : AllI es') (hm : ∀ m, mget es' m = if m = k then some (.int .i64 ((cnt l k : Int) + 1)) else mget es m) : Cnts es' (l ++ [k]) := ⟨ha, fun n => by
  rw [hm n]
  by_cases hn : n = k
  · subst hn
    simp [cnt]
  · rw [if_neg hn, h.2 n]
    have : ¬ k = n := fun e => hn e.symm
    simp [cnt, List.count_append, this]⟩
section
theorem flow_Critical_1_ct {w : World} {e : Ed} {ga gb m1 m2 c1 c2 : Nat} {es1 es2 : Array MapEntry} {l1 l2 : List Int} (ha : w.cell? ⟨ga, 0, none⟩ = some (.map (some m1))) (hb : w.cell? ⟨gb, 0, none⟩ = some (.map (some m2)))
    (h1 : w.heap[m1]? = some (.map es1 c1)) (h2 : w.heap[m2]? = some (.map es2 c2)) (k1 : Cnts es1.toList l1) (k2 : Cnts es2.toList l2) :
    Ct Try.prog 107 #[e.val, .pointer (some ⟨ga, 0, none⟩), .pointer (some ⟨gb, 0, none⟩)] w (Is (.bool (decide (1 < cnt l1 e.to) && decide (1 < cnt l2 e.src)))) := by
  have hlt1 : ga < w.heap.size := World.block_lt_of_cell? w _ ha
  have hlt2 : gb < w.heap.size := World.block_lt_of_cell? w _ hb
  have hm1 := (Array.getElem?_eq_some_iff.1 h1).1
  have hm2 := (Array.getElem?_eq_some_iff.1 h2).1
  refine Ct.mk Try.func107 rfl rfl ?_
  refine Cd.seq ?_
  refine Cd.region ?_
  refine Ol.x bxg ?_
  rintro _ _ ⟨g3, rfl, rfl⟩
  refine Ol.p asb ?_
  refine Ol.nil ?_
  refine Cd.seq ?_
  cases hc : decide ((1 : Int) < (cnt l1 e.to : Int)) with
  | true =>
    refine Cd.region ?_
    refine Ol.p (ld one_map_int_int (Rd.inp hlt1 ha)) ?_
    refine Ol.p (fdl fd_api_Edge_2) ?_
    refine Ol.p (ld one_int (Rd.blk (i := 0) rfl rfl)) ?_
    refine Ol.p (lkw mt_map_int_int hm1 h1 k1.1 (k1.2 e.to)) ?_
    refine Ol.p gti ?_
    refine Ol.p mvb ?_
    refine Ol.gp hc (ld one_map_int_int (Rd.inp hlt2 hb)) ?_
    refine Ol.gp hc (fdl fd_api_Edge_0) ?_
    refine Ol.gp hc (ld one_int (Rd.blk (i := 0) rfl rfl)) ?_
    refine Ol.gp hc (lkw mt_map_int_int hm2 h2 k2.1 (k2.2 e.src)) ?_
    refine Ol.gp hc gti ?_
    refine Ol.p (pkTb hc) ?_
    refine Ol.p asb ?_
    refine Ol.nil ?_
    refine Cd.ret ⟨.bool _, ret1 rfl rfl, [], .nil, ?_, rfl⟩
    have : 1 < cnt l1 e.to := by simp at hc; omega
    simp [this]
    omega
  | false =>
    refine Cd.region ?_
    refine Ol.p (ld one_map_int_int (Rd.inp hlt1 ha)) ?_
    refine Ol.p (fdl fd_api_Edge_2) ?_
    refine Ol.p (ld one_int (Rd.blk (i := 0) rfl rfl)) ?_
    refine Ol.p (lkw mt_map_int_int hm1 h1 k1.1 (k1.2 e.to)) ?_
    refine Ol.p gti ?_
    refine Ol.p mvb ?_
    refine Ol.gn hc ?_
    refine Ol.gn hc ?_
    refine Ol.gn hc ?_
    refine Ol.gn hc ?_
    refine Ol.gn hc ?_
    refine Ol.p (pkFb hc) ?_
    refine Ol.p asb ?_
    refine Ol.nil ?_
    refine Cd.ret ⟨.bool _, ret1 rfl rfl, [], .nil, ?_, rfl⟩
    have : ¬ 1 < cnt l1 e.to := by simp at hc; omega
    simp [this]
set_option maxHeartbeats 1000000 in
theorem flow_Critical_ct {w : World} {f : RFun} (hf : FunAt w w.heap.size f) (hfit : Fit f) : Ct Try.prog 60 #[f.val] w (NewL 85 3 (someE f.terms (critE f.terms)).length (edV (someE f.terms (critE f.terms)))) := by
  have hbl := hfit.blen
  have htl : f.terms.length = f.blocks.length := by simp [RFun.terms]
  have hel := edgesTo_len_le f.terms f.terms.length
  refine Ct.mk Try.func60 rfl rfl ?_
  refine Cd.seq ?_
  refine Cd.region ?_
  refine Ol.x bxg ?_
  rintro _ _ ⟨g1, rfl, rfl⟩
  refine Ol.p ass ?_
  refine Ol.nil ?_
  refine Cd.seq ?_
  refine Cd.region ?_
  refine Ol.x mkm ?_
  rintro _ _ ⟨g6, rfl, rfl⟩
  refine Ol.x mkm ?_
  rintro _ _ ⟨g7, rfl, rfl⟩
  refine Ol.x (alc zr_map_int_int) ?_
  rintro _ _ ⟨g3, rfl, rfl⟩
  refine Ol.x (alc zr_map_int_int) ?_
  rintro _ _ ⟨g4, rfl, rfl⟩
  refine Ol.s (stv sz_map_int_int (i := 1) rfl rfl) ?_
  refine Ol.s (stv sz_map_int_int (i := 0) rfl rfl) ?_
  refine Ol.nil ?_
  refine Cd.seq ?_
  refine Cd.seq ?_
  refine Cd.region ?_
  refine Ol.p (ldw ag_api_Func (i := 4) rfl rfl) ?_
  refine Ol.x (sp_call en_flow_each (fun M w' hh => flow_each_ct (f := f))) ?_
  rintro _ _ ⟨_, rfl, gE, rfl, rfl⟩
  refine Ol.nil ?_
  refine Cd.block ?_
  refine Cd.rf (Own := [blk gE (.cells f.cells.toArray 43)]) (L0 := [blk g4 (.cells #[.map (some g7)] 134), blk g3 (.cells #[.map (some g6)] 134), blk g7 (.map #[] 0), blk g6 (.map #[] 0), blk g1 (.cells f.cells.toArray 43)])
    (fun k L => ∃ es1 es2 c1 c2, L = [blk g4 (.cells #[.map (some g7)] 134), blk g3 (.cells #[.map (some g6)] 134), blk g7 (.map es2 c2), blk g6 (.map es1 c1), blk g1 (.cells f.cells.toArray 43)] ∧ Cnts es1.toList (((edges f.terms).take k).map Ed.to) ∧ Cnts es2.toList (((edges f.terms).take k).map Ed.src))
    (fun _ _ _ => False) (fun _ h => by cases h) en_flow_each_1 (flow_each_1_it hf hfit) (.refl _) ⟨#[], #[], 0, 0, rfl, Cnts.nil, Cnts.nil⟩ ysE_one rfl ?_ ?_ (fun _ _ _ h => h.elim)
  · rintro l H k vs Lj hk ⟨es1, es2, c1, c2, rfl, hk1, hk2⟩
    obtain ⟨e, he, rfl, hlt⟩ := ysE_get hk
    have hkb : k < 2 ^ 52 := by unfold edges at hlt; omega
    have n1 : cnt (((edges f.terms).take k).map Ed.to) e.to ≤ k := Nat.le_trans List.count_le_length (by simp; omega)
    have n2 : cnt (((edges f.terms).take k).map Ed.src) e.src ≤ k := Nat.le_trans List.count_le_length (by simp; omega)
    have s1 : ((edges f.terms).take (k + 1)).map Ed.to = ((edges f.terms).take k).map Ed.to ++ [e.to] := by rw [take_snoc_ he, List.map_append]; rfl
    have s2 : ((edges f.terms).take (k + 1)).map Ed.src = ((edges f.terms).take k).map Ed.src ++ [e.src] := by rw [take_snoc_ he, List.map_append]; rfl
    refine Cd.region ?_
    refine Ol.x (alc zr_api_Edge) ?_
    rintro _ _ ⟨g5, rfl, rfl⟩
    refine Ol.s (stw sz_api_Edge rfl e.one (i := 0) rfl rfl) ?_
    refine Ol.nil ?_
    intro H' r hr
    refine Cd.block ?_
    refine Cd.seq ?_
    refine Cd.region ?_
    refine Ol.p (ldv one_map_int_int (i := 2) rfl) ?_
    refine Ol.p (fdl fd_api_Edge_2) ?_
    refine Ol.p (ld one_int (Rd.blk (i := 0) rfl rfl)) ?_
    refine Ol.p (lkn mt_map_int_int (i := 4) rfl hk1.1 (hk1.2 e.to)) ?_
    refine Ol.p addi ?_
    refine Ol.x (upm (v := .int .i64 ((cnt (((edges f.terms).take k).map Ed.to) e.to : Int) + 1)) mt_map_int_int (i := 4) rfl hk1.1 rfl) ?_
    rintro _ _ ⟨es1', c1', rfl, ha1, hm1⟩
    refine Ol.nil ?_
    refine Cd.region ?_
    refine Ol.p (ldv one_map_int_int (i := 1) rfl) ?_
    refine Ol.p (fdl fd_api_Edge_0) ?_
    refine Ol.p (ld one_int (Rd.blk (i := 0) rfl rfl)) ?_
    refine Ol.p (lkn mt_map_int_int (i := 3) rfl hk2.1 (hk2.2 e.src)) ?_
    refine Ol.p addi ?_
    refine Ol.x (upm (v := .int .i64 ((cnt (((edges f.terms).take k).map Ed.src) e.src : Int) + 1)) mt_map_int_int (i := 3) rfl hk2.1 rfl) ?_
    rintro _ _ ⟨es2', c2', rfl, ha2, hm2⟩
    refine Ol.keep (.sub (.cons _ (List.Sublist.refl _))) ?_
    refine Ol.nil ?_
    refine ⟨es1', es2', c1', c2', rfl, ?_, ?_⟩
    · rw [s1]; exact hk1.snoc ha1 hm1
    · rw [s2]; exact hk2.snoc ha2 hm2
  · rintro L' ⟨es1, es2, c1, c2, rfl, hk1, hk2⟩
    rw [ysE_len, List.take_length] at hk1 hk2
    refine Cd.seq ?_
    refine Cd.region ?_
    refine Ol.p (ldw ag_api_Func (i := 4) rfl rfl) ?_
    refine Ol.p mkf ?_
    refine Ol.x (sp_call en_flow_some (fun M w' hh => flow_some_ct (g := 107) (fst := #[]) (cap := #[.pointer (some ⟨g3, 0, none⟩), .pointer (some ⟨g4, 0, none⟩)]) (p := critE f.terms) (hf.now hh) hfit ⟨en_flow_Critical_1, fun e he w2 h2 => flow_Critical_1_ct (Hp.keeps hh (i := 1) rfl rfl h2) (Hp.keeps hh (i := 0) rfl rfl h2) (Hp.keepsObj hh (i := 3) rfl h2).1 (Hp.keepsObj hh (i := 2) rfl h2).1 hk1 hk2⟩)) ?_
    rintro _ _ ⟨_, rfl, A, c, rfl, rfl⟩
    refine Ol.p ass ?_
    refine Ol.nil ?_
    refine Cd.ret ⟨.slice _ _ _, ret1 rfl rfl, _, .sub (.cons_cons _ (List.nil_sublist _)), A, c, rfl, rfl⟩
end
end Go.Proofs.Ytcojedoejpcolaa

/- The package flow: what is reached, walked. -/
namespace Go.Proofs.Ytcojedoejpcolaa
set_option linter.unusedVariables false
open Go Go.RowKit
set_option maxRecDepth 100000

theorem enc_ne {s t : Nat} (hs : Sm s) (ht : Sm t) : decide (s = t) = true ↔ enc s = enc t := enc_iff hs ht
theorem intsN_get {l : List Nat} {k n : Nat} (h : l[k]? = some n) : (intsN l)[k]? = some (.int .i64 (n : Int)) := by simp [intsN, h]
theorem toAt_i64 {f : RFun} (hfit : Fit f) {b : RBlk} (hb : b ∈ f.blocks) : ∀ n ∈ toL b.term, I64 n := fun n hn => by
  unfold I64
  rcases toL_mem hn with e | e
  · exact hfit.term b hb _ (by simp [e])
  · exact hfit.term b hb _ (by simp [e])
end Go.Proofs.Ytcojedoejpcolaa

/- The package flow: the order of blocks, walked. -/
namespace Go.Proofs.Ytcojedoejpcolaa
set_option linter.unusedVariables false
open Go Go.RowKit
set_option maxRecDepth 100000

theorem foldl_snoc {α β : Type} {f : β → α → β} {l : List α} {k : Nat} {x : α} {a : β} (h : l[k]? = some x) : (l.take (k + 1)).foldl f a = f ((l.take k).foldl f a) x := by
  rw [take_snoc_ h, List.foldl_append]; rfl
end Go.Proofs.Ytcojedoejpcolaa

/- Structs of numbers, compared. -/
namespace Go.Proofs.Ytcojedoejpcolaa
set_option linter.unusedVariables false
open Go Go.RowKit
section
variable {P : Program} {w0 : World} {B : Nat} {σ : Env} {L : List Res} {d : Option Nat} {ty T : TypeId} {pos : String} {af : Array Edge} {gd : Option (Nat × Bool)} {x y z : Operand} {v : Value}
theorem run_eqFields_prim {xs ys : Array Value} {dd : Nat} (w : World) : ∀ fs : List Field, (∀ f ∈ fs, f.name ≠ "_" ∧ ∃ kd a b, primT P f.type kd ∧ xs[f.offset]? = some a ∧ ys[f.offset]? = some b ∧ Tell kd a b) → ∀ r : Bool, (r = true ↔ ∀ f ∈ fs, xs[f.offset]? = ys[f.offset]?) → (Op.eqFields (dd + 1) xs ys fs).run P w = .ok r w
  | [], _, r, hr => by
    have : r = true := hr.2 (by simp)
    simp [Op.eqFields, this]
  | f :: fs, h, r, hr => by
    obtain ⟨hn, kd, a, b, he, ha, hb, q, hs, hq⟩ := h f (by simp)
    have h1 := run_eq_prim (dd := dd) he.1 hs w
    have p1 : (part f.type xs f.offset).run P w = .ok a w := run_part_one he.one ha w
    have p2 : (part f.type ys f.offset).run P w = .ok b w := run_part_one he.one hb w
    simp only [Op.eqFields, hn, ne_eq, not_false_eq_true, if_true, Sem.run_bind, p1, p2, h1, Result.andThen_ok]
    cases q with
    | true =>
      have hab : a = b := hq.1 rfl
      have ih := run_eqFields_prim (dd := dd) w fs (fun j hj => h j (by simp [hj])) r (by
        rw [hr]
        simp [ha, hb, hab])
      simpa using ih
    | false =>
      have hab : a ≠ b := fun e => by have := hq.2 e; cases this
      have : r = false := by
        cases r with
        | false => rfl
        | true =>
          have := hr.1 rfl f (by simp)
          rw [ha, hb] at this
          exact absurd (Option.some.inj this) hab
      simp [this]
/-- A struct of n numbers. -/
def stI (P : Program) (T n : Nat) : Bool := match P.underlying T with
  | some (.struct fs) => fs.toList.all (fun f => (f.name != "_") && ((match P.underlying f.type with | some (.int _) => true | _ => false) && decide ((P.info? f.type).map (·.size) = some 1))) && decide (fs.toList.map (·.offset) = List.range n) && !P.stoodInHeld T && !P.eqGuardType P.depth T
  | _ => false
theorem run_equal_ints {n : Nat} {a b : List Int} (hT : stI P T n = true) (ha : a.length = n) (hb : b.length = n) (w : World) : (Op.equal T (.agg (ints a).toArray) (.agg (ints b).toArray)).run P w = .ok (decide (a = b)) w ∧ P.eqGuardType P.depth T = false := by
  unfold stI at hT
  split at hT
  · rename_i fs hu
    simp only [Bool.and_eq_true, List.all_eq_true, Bool.not_eq_true', decide_eq_true_eq] at hT
    obtain ⟨⟨⟨h1, h2⟩, h3⟩, h4⟩ := hT
    refine ⟨?_, h4⟩
    have hf : P.fieldsOf T = fs := by simp [Program.fieldsOf, hu]
    have := run_equalIn_struct (P := P) w 9999 T (ints a).toArray (ints b).toArray (by rw [hf]; exact hu) h3
    have e : (Op.equal T (.agg (ints a).toArray) (.agg (ints b).toArray)).run P w = (Op.equalIn (9999 + 1) T (.agg (ints a).toArray) (.agg (ints b).toArray)).run P w := rfl
    rw [e, this, hf]
    have hoff : ∀ f ∈ fs.toList, f.offset < n := fun f hf => by
      have : f.offset ∈ fs.toList.map (·.offset) := List.mem_map.2 ⟨f, hf, rfl⟩
      rw [h2] at this
      simpa using this
    have hall : ∀ i, i < n → ∃ f ∈ fs.toList, f.offset = i := fun i hi => by
      have : i ∈ fs.toList.map (·.offset) := by rw [h2]; simpa using hi
      simpa using this
    have hget : ∀ (l : List Int) (i : Nat) (hi : i < l.length), ((ints l).toArray)[i]? = some (.int .i64 l[i]) := fun l i hi => by simp [ints, hi]
    apply run_eqFields_prim (dd := 9998)
    · intro f hf
      obtain ⟨h5, h6, h7⟩ := h1 f hf
      refine ⟨by simpa using h5, ?_⟩
      have ho := hoff f hf
      split at h6
      · rename_i k hk
        exact ⟨.int k, _, _, ⟨hk, rfl, h7⟩, hget a _ (by omega), hget b _ (by omega), Tell.int⟩
      · cases h6
    · rw [decide_eq_true_iff]
      constructor
      · rintro rfl f _; rfl
      · intro h
        apply List.ext_getElem (by omega)
        intro i hi hj
        obtain ⟨f, hf, rfl⟩ := hall i (by omega)
        have := h f hf
        rw [hget a _ hi, hget b _ hj] at this
        simpa using this
  · cases hT
theorem eqs {u : TypeId} {n : Nat} {a b : List Int} (hT : stI P T n = true) (ha : a.length = n) (hb : b.length = n) (hx : ev σ x = .agg (ints a).toArray := by exact rfl) (hy : ev σ y = .agg (ints b).toArray := by exact rfl) :
    Sd P w0 B ⟨d, .binOp .eql T x y u, ty, pos, af, gd⟩ σ L (.bool (decide (a = b))) := sp_val fun w => by
  obtain ⟨h1, h2⟩ := run_equal_ints hT ha hb w
  simp [execOp, hx, hy, binOp, eqGuard_agg h2, h1]
theorem nes {u : TypeId} {n : Nat} {a b : List Int} (hT : stI P T n = true) (ha : a.length = n) (hb : b.length = n) (hx : ev σ x = .agg (ints a).toArray := by exact rfl) (hy : ev σ y = .agg (ints b).toArray := by exact rfl) :
    Sd P w0 B ⟨d, .binOp .neq T x y u, ty, pos, af, gd⟩ σ L (.bool (!decide (a = b))) := sp_val fun w => by
  obtain ⟨h1, h2⟩ := run_equal_ints hT ha hb w
  simp [execOp, hx, hy, binOp, eqGuard_agg h2, h1]
end
theorem st_api_Edge : stI Try.prog 85 3 = true := by kernel_rfl
end Go.Proofs.Ytcojedoejpcolaa

/- The law 10: its small functions, walked. -/
namespace Go.Proofs.Ytcojedoejpcolaa
set_option linter.unusedVariables false
open Go Go.RowKit
set_option maxRecDepth 100000


section
theorem ints_eq_of {a b : List Int} (hl : a.length = b.length) (h : ∀ i x y, i < a.length → a[i]? = some x → b[i]? = some y → x = y) : a = b := by
  apply List.ext_getElem hl
  intro i h1 h2
  exact h i _ _ h1 (List.getElem?_eq_getElem h1) (List.getElem?_eq_getElem h2)
theorem kit_SameInts_ct {w : World} {A B : Option Addr} {c d : Nat} {a b : List Int} (ha : Reads w w.heap.size 1 A a.length (ints a)) (hb : Reads w w.heap.size 1 B b.length (ints b)) (hal : a.length < 2 ^ 62) (hbl : b.length < 2 ^ 62) :
    Ct Try.prog 21 #[.slice A a.length c, .slice B b.length d] w (Is (.bool (decide (a = b)))) := by
  refine Ct.mk Try.func21 rfl rfl ?_
  refine Cd.seq ?_
  refine Cd.region ?_
  refine Ol.p asb ?_
  refine Ol.nil ?_
  refine Cd.seq ?_
  refine Cd.seq ?_
  refine Cd.region ?_
  refine Ol.p mvs ?_
  refine Ol.p (lens sl_L_int) ?_
  refine Ol.p mvs ?_
  refine Ol.p (lens sl_L_int) ?_
  refine Ol.p nei ?_
  refine Ol.nil ?_
  refine Cd.cond rfl (fun h => ?_) (fun h => ?_)
  · refine Cd.seq ?_
    refine Cd.region ?_
    refine Ol.p asb ?_
    refine Ol.nil ?_
    refine Cd.ret ⟨_, ret1 rfl rfl, [], .nil, ?_, rfl⟩
    have hne : a ≠ b := fun e => by subst e; simp at h
    rw [decide_eq_false hne]; rfl
  have hll : a.length = b.length := by
    have : (a.length : Int) = b.length := by simpa using h
    omega
  refine Cd.skip ?_
  refine Cd.seq ?_
  refine Cd.seq ?_
  refine Cd.region ?_
  refine Ol.p asi ?_
  refine Ol.nil ?_
  refine Cd.block ?_
  refine Cd.loop (fun m σ L => ∃ k, m = a.length - k ∧ k ≤ a.length ∧ Has σ [(0, .slice A a.length c), (1, .slice B b.length d), (5, .int .i64 k)] ∧ L = [] ∧ ∀ i x y, i < k → a[i]? = some x → b[i]? = some y → x = y) (n := a.length) ⟨0, rfl, Nat.zero_le _, ⟨rfl, rfl, rfl, trivial⟩, rfl, fun i x y h => by omega⟩ ?_
  rintro _ σ L ⟨k, rfl, hk, hs, rfl, hyes⟩
  refine Cd.has hs ?_
  refine Cd.seq ?_
  refine Cd.seq ?_
  refine Cd.region ?_
  refine Ol.p mvi ?_
  refine Ol.p mvs ?_
  refine Ol.p (lens sl_L_int) ?_
  refine Ol.p lsi ?_
  refine Ol.nil ?_
  refine Cd.cond rfl (fun h => ?_) (fun h => ?_)
  · have hlt : k < a.length := by simpa using h
    have hlt2 : k < b.length := by omega
    refine Cd.skip ?_
    refine Cd.seq ?_
    refine Cd.block ?_
    refine Cd.seq ?_
    refine Cd.draw mixed 9 (fun _ => none) (fun _ => []) (by kernel_rfl) (fun _ _ h => by cases h) (fun u hu => ?_)
    refine Wk.p mvs ?_
    refine Wk.p mvi ?_
    refine Wk.p (ixn1 sl_L_int (Som.slc ha (by omega))) ?_
    refine Wk.p (ld one_int (Rd.slc ha (ints_get hlt))) ?_
    refine Wk.p mvs ?_
    refine Wk.p mvi ?_
    refine Wk.p (ixn1 sl_L_int (Som.slc hb (by omega))) ?_
    refine Wk.p (ld one_int (Rd.slc hb (ints_get hlt2))) ?_
    refine Wk.p nei ?_
    refine Wk.nil ?_
    refine Ol.nil ?_
    refine Cd.cond rfl (fun h2 => ?_) (fun h2 => ?_)
    · refine Cd.seq ?_
      refine Cd.region ?_
      refine Ol.p asb ?_
      refine Ol.nil ?_
      refine Cd.ret ⟨_, ret1 rfl rfl, [], .nil, ?_, rfl⟩
      have hne : a ≠ b := fun e => by subst e; simp at h2
      rw [decide_eq_false hne]; rfl
    · refine Cd.skip ?_
      refine Cd.region ?_
      refine Ol.p mvi ?_
      refine Ol.p addi ?_
      refine Ol.p asi ?_
      refine Ol.nil ?_
      refine ⟨a.length - (k + 1), by omega, k + 1, rfl, by omega, ⟨rfl, rfl, rfl, trivial⟩, rfl, ?_⟩
      intro i x y hi hx hy
      rcases Nat.lt_or_ge i k with h3 | h3
      · exact hyes i x y h3 hx hy
      · have : i = k := by omega
        subst this
        rw [List.getElem?_eq_getElem hlt] at hx
        rw [List.getElem?_eq_getElem hlt2] at hy
        cases hx; cases hy
        simpa using h2
  · have hge : k = a.length := by
      have : ¬ (k : Int) < a.length := by simpa using h
      omega
    subst hge
    refine Cd.exit (id := 0) ?_
    refine Cd.seq ?_
    refine Cd.region ?_
    refine Ol.p asb ?_
    refine Ol.nil ?_
    refine Cd.ret ⟨_, ret1 rfl rfl, [], .nil, ?_, rfl⟩
    rw [decide_eq_true (ints_eq_of hll hyes)]; rfl
end
end Go.Proofs.Ytcojedoejpcolaa

/- The package ir: a function's variables, its size, walked. -/
namespace Go.Proofs.Ytcojedoejpcolaa
set_option linter.unusedVariables false
open Go Go.RowKit
set_option maxRecDepth 100000

/-- What is noted of an instruction, of a block, of a function. -/
def noteI (i : RIns) : List Int := readsL i ++ [defI i]
def noteB (b : RBlk) : List Int := b.ins.flatMap noteI ++ needsL b.term
def noteF (f : RFun) : List Int := f.params ++ f.blocks.flatMap noteB
def noS : VS := fun _ => false
theorem putsV_app (S : VS) (a b : List Int) : putsV S (a ++ b) true = putsV (putsV S a true) b true := by
  unfold putsV; rw [List.foldl_append]
theorem putsV_snoc (S : VS) (a : List Int) (n : Int) : putsV S (a ++ [n]) true = putV (putsV S a true) n.toNat true := by
  rw [putsV_app]; rfl
theorem putsV_iff {l : List Int} {S : VS} {v : Nat} : putsV S l true v = true ↔ S v = true ∨ ∃ n ∈ l, n.toNat = v := by
  induction l generalizing S with
  | nil => simp [putsV]
  | cons n l ih =>
    show putsV (putV S n.toNat true) l true v = true ↔ _
    rw [ih]
    have : putV S n.toNat true v = true ↔ S v = true ∨ n.toNat = v := by
      unfold putV
      by_cases e : v = n.toNat
      · rw [if_pos e]; simp [e]
      · rw [if_neg e]
        exact ⟨.inl, fun h => h.elim id fun h => absurd h.symm e⟩
    rw [this]
    simp only [List.mem_cons, exists_eq_or_imp]
    exact or_assoc
def varsTo (S : VS) (k : Nat) : List Nat := (List.range' 1 k).filter S
theorem varsTo_succ (S : VS) (k : Nat) : varsTo S (k + 1) = varsTo S k ++ (if S (k + 1) then [k + 1] else []) := by
  unfold varsTo
  rw [List.range'_concat, List.filter_append]
  congr 1
  rw [Nat.one_mul, Nat.add_comm 1 k]
  cases h : S (k + 1) <;> simp [h]
theorem varsTo_len (S : VS) (k : Nat) : (varsTo S k).length ≤ k := by
  unfold varsTo
  exact Nat.le_trans (List.length_filter_le _ _) (by simp)
def okF (f : RFun) : Bool := !longF f && wholeF f
def varsF (f : RFun) : List Nat := if okF f then varsTo (putsV noS (noteF f) true) 200 else []
def sizeF (f : RFun) : Nat := if okF f then (f.blocks.map fun b => b.ins.length + 1).sum else 0
theorem mem_varsF {f : RFun} {v : Nat} : v ∈ varsF f ↔ okF f = true ∧ (1 ≤ v ∧ v ≤ 200) ∧ ∃ n ∈ noteF f, n.toNat = v := by
  unfold varsF
  cases h : okF f with
  | false => simp
  | true =>
    rw [if_pos rfl]
    unfold varsTo
    rw [List.mem_filter, putsV_iff, List.mem_range'_1]
    simp only [noS, Bool.false_eq_true, false_or, true_and]
    exact ⟨fun ⟨h1, h2⟩ => ⟨⟨h1.1, by omega⟩, h2⟩, fun ⟨h1, h2⟩ => ⟨⟨h1.1, by omega⟩, h2⟩⟩
theorem ok_parts {f : RFun} (h : okF f = true) : longF f = false ∧ wholeF f = true := by
  unfold okF at h
  rw [Bool.and_eq_true] at h
  exact ⟨by simpa using h.1, h.2⟩
theorem whole_params {f : RFun} (h : wholeF f = true) : ∀ p ∈ f.params, 1 ≤ p ∧ p ≤ 200 := fun p hp => by
  rw [whole_split, Bool.and_eq_true, Bool.and_eq_true] at h
  have := List.all_eq_true.1 h.1.1 p hp
  unfold varB at this
  simpa using this
theorem noteI_range {i : RIns} {n : Int} (h : n ∈ noteI i) : 0 ≤ n ∧ n ≤ 200 := by
  unfold noteI at h
  rcases List.mem_append.1 h with h | h
  · have := readsL_mem h; omega
  · have e : n = defI i := by simpa using h
    rw [e]; exact defI_range i
theorem RdS.held {w0 : World} {B s n : Nat} {L : List Res} {A : Option Addr} {xs : List Value} {M : List Res} {w : World} (h : RdS w0 B L s A n xs) (hh : Hp w0 B (M ++ L) w) : Reads w w.heap.size s A n xs := h M w hh
section
/-- Numbers are noted. -/
theorem ir_Vars_1_ct {w0 : World} {B g c : Nat} {A : Option Addr} {l : List Int} {S : VS} {R : List Res} (hl : RdS w0 B R 1 A l.length (ints l)) (hlen : l.length < 2 ^ 60) (hr : ∀ n ∈ l, 0 ≤ n ∧ n ≤ 200) :
    Cm Try.prog 87 #[.slice A l.length c, .pointer (some ⟨g, 0, none⟩)] w0 B (blk g (.cells (encV S) 128) :: R) (fun v L => v = .tuple #[] ∧ L = blk g (.cells (encV (putsV S l true)) 128) :: R) := by
  refine Cm.mk Try.func87 rfl rfl fun M => ?_
  refine Cd.seq ?_
  refine Cd.region ?_
  refine Ol.p mvs ?_
  refine Ol.p (lens sl_L_int) ?_
  refine Ol.p mvi ?_
  refine Ol.nil ?_
  refine Cd.block ?_
  refine Cd.loop (fun m σ L => ∃ k, m = l.length - k ∧ k ≤ l.length ∧ Has σ [(1, .pointer (some ⟨g, 0, none⟩)), (5, .slice A l.length c), (6, .int .i64 l.length), (7, .int .i64 k)] ∧ blk g (.cells (encV (putsV S (l.take k) true)) 128) :: R = L) (n := l.length) ⟨0, rfl, Nat.zero_le _, ⟨rfl, rfl, rfl, rfl, trivial⟩, rfl⟩ ?_
  rintro _ σ L ⟨k, rfl, hk, hs, rfl⟩
  refine Cd.has hs ?_
  refine Cd.seq ?_
  refine Cd.region ?_
  refine Ol.p lsi ?_
  refine Ol.nil ?_
  refine Cd.seq ?_
  refine Cd.cond rfl (fun h => ?_) (fun h => ?_)
  · have hlt : k < l.length := by simpa using h
    obtain ⟨n, hn⟩ : ∃ n, l[k]? = some n := ⟨_, List.getElem?_eq_getElem hlt⟩
    have hnr := hr n (List.mem_of_getElem? hn)
    obtain ⟨m, rfl⟩ : ∃ m : Nat, n = (m : Int) := ⟨n.toNat, by omega⟩
    refine Cd.skip ?_
    refine Cd.seq ?_
    refine Cd.block ?_
    refine Cd.seq ?_
    refine Cd.region ?_
    refine Ol.p (ixn1 (ix := k) sl_L_int (Som.rds hl.more (by omega))) ?_
    refine Ol.p (ld one_int (Rd.rds hl.more (ints_at hn))) ?_
    refine Ol.p asi ?_
    refine Ol.nil ?_
    refine Cd.region ?_
    refine Ol.p mvi ?_
    refine Ol.p (ixl1 (ix := m) ar_ir_set) ?_
    refine Ol.s (sto (v := .bool true) (i := 0) (k := m) (.inr sz_bool) rfl rfl rfl (by rw [encV_size]; omega) rfl) ?_
    refine Ol.nil ?_
    refine Cd.region ?_
    refine Ol.p addi ?_
    refine Ol.p mvi ?_
    refine Ol.nil ?_
    refine ⟨l.length - (k + 1), by omega, k + 1, rfl, by omega, ⟨rfl, rfl, rfl, rfl, trivial⟩, ?_⟩
    rw [take_snoc_ hn, putsV_snoc, ← encV_set]
    rfl
  have hge : k = l.length := by
    have : ¬ (k : Int) < l.length := by simpa using h
    omega
  subst hge
  refine Cd.exit (id := 0) ⟨_, ret0 rfl, _, .all, rfl, by rw [List.take_of_length_le (Nat.le_refl _)]⟩
end
section
set_option maxHeartbeats 4000000 in
theorem ir_Vars_ct {w : World} {f : RFun} (hf : FunAt w w.heap.size f) (hfit : Fit f) : Ct Try.prog 36 #[f.val] w (NewL 3 1 (varsF f).length (intsN (varsF f))) := by
  have hbl := hfit.blen
  have hpl := hfit.plen
  refine Ct.mk Try.func36 rfl rfl ?_
  refine Cd.seq ?_
  refine Cd.region ?_
  refine Ol.x bxg ?_
  rintro _ _ ⟨g1, rfl, rfl⟩
  refine Ol.p ass ?_
  refine Ol.nil ?_
  refine Cd.seq ?_
  cases hok : okF f with
  | false =>
    have hv : varsF f = [] := by unfold varsF; rw [hok]; rfl
    rw [hv]
    refine Cd.mid (fun σ' L' => Has σ' [(16, .bool true)] ∧ [blk g1 (.cells f.cells.toArray 43)] = L') ?_ ?_
    · cases hl : longF f with
      | true =>
        refine Cd.region ?_
        refine Ol.p (ldw ag_api_Func (i := 0) rfl rfl) ?_
        refine Ol.s (cl en_ir_long (fun M w' hh => ir_long_ct (hf.now hh) hfit)) ?_
        refine Ol.p mvb ?_
        refine Ol.gn hl ?_
        refine Ol.gn hl ?_
        refine Ol.gn hl ?_
        refine Ol.p (pkTb hl) ?_
        refine Ol.nil ?_
        exact ⟨⟨rfl, trivial⟩, rfl⟩
      | false =>
        have hw : wholeF f = false := by unfold okF at hok; rw [hl] at hok; simpa using hok
        refine Cd.region ?_
        refine Ol.p (ldw ag_api_Func (i := 0) rfl rfl) ?_
        refine Ol.s (cl en_ir_long (fun M w' hh => ir_long_ct (hf.now hh) hfit)) ?_
        refine Ol.p mvb ?_
        refine Ol.gp hl (ldw ag_api_Func (i := 0) rfl rfl) ?_
        refine Ol.gs hl (cl en_ir_whole (fun M w' hh => ir_whole_ct (hf.now hh) hfit)) ?_
        refine Ol.gp hl noti ?_
        refine Ol.p (pkFb hl) ?_
        refine Ol.nil ?_
        exact ⟨⟨by show Value.bool _ = _; rw [hw]; rfl, trivial⟩, rfl⟩
    rintro σ' _ ⟨hs', rfl⟩
    refine Cd.has hs' ?_
    refine Cd.cond rfl (fun h => ?_) (fun h => by cases h)
    refine Cd.seq ?_
    refine Cd.region ?_
    refine Ol.p ass ?_
    refine Ol.nil ?_
    exact Cd.nr 3 1 (Cd.ret ⟨_, ret1 rfl rfl, _, .sub (.cons_cons _ (.cons _ .slnil)), none, 0, rfl, rfl⟩)
  | true =>
  obtain ⟨hl, hw⟩ := ok_parts hok
  obtain ⟨h0, h200, h8, h64⟩ := long_parts hl
  have hwb : (!wholeF f) = false := by rw [hw]; rfl
  have hprm : ∀ n ∈ f.params, 0 ≤ n ∧ n ≤ 200 := fun n hn => by have := whole_params hw n hn; omega
  have hv : varsF f = varsTo (putsV noS (noteF f) true) 200 := by unfold varsF; rw [hok]; rfl
  rw [hv]
  refine Cd.seq ?_
  refine Cd.region ?_
  refine Ol.p (ldw ag_api_Func (i := 0) rfl rfl) ?_
  refine Ol.s (cl en_ir_long (fun M w' hh => ir_long_ct (hf.now hh) hfit)) ?_
  refine Ol.p mvb ?_
  refine Ol.gp hl (ldw ag_api_Func (i := 0) rfl rfl) ?_
  refine Ol.gs hl (cl en_ir_whole (fun M w' hh => ir_whole_ct (hf.now hh) hfit)) ?_
  refine Ol.gp hl noti ?_
  refine Ol.p (pkFb hl) ?_
  refine Ol.nil ?_
  refine Cd.cond rfl (fun h => by rw [hwb] at h; cases h) (fun h => ?_)
  refine Cd.skip ?_
  refine Cd.seq ?_
  refine Cd.region ?_
  refine Ol.x (alc zr_ir_set) ?_
  rintro _ _ ⟨g3, rfl, rfl⟩
  refine Ol.nil ?_
  refine Cd.seq ?_
  refine Cd.region ?_
  refine Ol.p mkf ?_
  refine Ol.p asf ?_
  refine Ol.nil ?_
  have hz : (Array.replicate 201 (Value.bool false)) = encV noS := zeroV
  have hnote : ∀ {σ : Env} {L R L2 : List Res} {d ty pos af gd} {x y : Operand} {ts : Array TypeId} {A : Option Addr} {c : Nat} {l : List Int} {S : VS}, L.Perm ((blk g3 (.cells (encV S) 128) :: R) ++ L2) → RdS w w.heap.size R 1 A l.length (ints l) → l.length < 2 ^ 60 → (∀ n ∈ l, 0 ≤ n ∧ n ≤ 200) → ev σ x = .func (.func 87) #[] #[.pointer (some ⟨g3, 0, none⟩)] → [y].map (ev σ) = [.slice A l.length c] →
      Sp Try.prog w w.heap.size ⟨d, .call { callee := .value x, args := [y].toArray, argTypes := ts }, ty, pos, af, gd⟩ σ L (Adds (fun v T => v = .tuple #[] ∧ T = blk g3 (.cells (encV (putsV S l true)) 128) :: R) L2) := by
    intro σ L R L2 d ty pos af gd x y ts A c l S h0 h1 h2 h3 h4 h5
    exact sp_callvw (fst := #[]) (vs := [Value.slice A l.length c]) (cap := #[.pointer (some ⟨g3, 0, none⟩)]) en_ir_Vars_1 (ir_Vars_1_ct (c := c) h1 h2 h3) h0 h4 h5 (by simp)
  refine Cd.seq ?_
  refine Cd.region ?_
  refine Ol.p mvf ?_
  refine Ol.p (fdl fd_api_Func_0) ?_
  refine Ol.p (ld one_L_int (Rd.blk (i := 1) rfl rfl)) ?_
  refine Ol.x (hnote (S := noS) (l := f.params) (R := []) (L2 := [blk g1 (.cells f.cells.toArray 43)]) (c := f.pC) (by rw [← hz]; exact .refl _) (RdS.slc hf.params) (by omega) hprm rfl rfl) ?_
  rintro _ _ ⟨_, rfl, rfl, rfl⟩
  refine Ol.nil ?_
  refine Cd.mid (fun σ' L' => Has σ' [(2, .slice none 0 0), (3, .pointer (some ⟨g3, 0, none⟩))] ∧ [blk g3 (.cells (encV (putsV noS (noteF f) true)) 128), blk g1 (.cells f.cells.toArray 43)] = L') ?_ ?_
  · refine Cd.seq ?_
    refine Cd.region ?_
    refine Ol.p (fdl fd_api_Func_1) ?_
    refine Ol.p (ld one_L_api_Block (Rd.blk (i := 1) rfl rfl)) ?_
    refine Ol.p (lens sl_L_api_Block) ?_
    refine Ol.p mvi ?_
    refine Ol.nil ?_
    refine Cd.block ?_   -- 0
    refine Cd.loop (fun m σ L => ∃ k, m = f.blocks.length - k ∧ k ≤ f.blocks.length ∧ Has σ [(2, .slice none 0 0), (3, .pointer (some ⟨g3, 0, none⟩)), (4, .func (.func 87) #[] #[.pointer (some ⟨g3, 0, none⟩)]), (23, .slice f.bA f.blocks.length f.bC), (24, .int .i64 f.blocks.length), (25, .int .i64 k)] ∧
      [blk g3 (.cells (encV (putsV noS (f.params ++ (f.blocks.take k).flatMap noteB) true)) 128), blk g1 (.cells f.cells.toArray 43)] = L) (n := f.blocks.length) ⟨0, rfl, Nat.zero_le _, ⟨rfl, rfl, rfl, rfl, rfl, rfl, trivial⟩, by simp⟩ ?_
    rintro _ σ L ⟨k, rfl, hk, hs, rfl⟩
    refine Cd.has hs ?_
    clear hs
    refine Cd.seq ?_
    refine Cd.region ?_
    refine Ol.p lsi ?_
    refine Ol.nil ?_
    refine Cd.seq ?_
    refine Cd.cond rfl (fun h => ?_) (fun h => ?_)   -- $26
    · have hlt : k < f.blocks.length := by
        simp only [decide_eq_true_eq] at h; omega
      obtain ⟨x, hx⟩ : ∃ x, f.blocks[k]? = some x := ⟨_, List.getElem?_eq_getElem hlt⟩
      have hxm := List.mem_of_getElem? hx
      have hxl := h64 x hxm
      have hnl := needsL_len x.term
      refine Cd.skip ?_
      refine Cd.seq ?_
      refine Cd.block ?_   -- 1
      refine Cd.seq ?_
      refine Cd.region ?_
      refine Ol.p (ixn (ix := k) sl_L_api_Block (Som.slc hf.blocks (by omega))) ?_
      refine Ol.p (lds (es := x.cells) ag_api_Block hf.blocks x.len (fun j u hu => blk_cell hx hu)) ?_
      refine Ol.x (alc zr_api_Block) ?_
      rintro _ _ ⟨g6, rfl, rfl⟩
      refine Ol.s (stw (vs := x.cells.toArray) sz_api_Block rfl x.one (i := 0) rfl rfl) ?_
      refine Ol.nil ?_
      obtain ⟨S0, hS0⟩ : ∃ S0, S0 = putsV noS (f.params ++ (f.blocks.take k).flatMap noteB) true := ⟨_, rfl⟩
      rw [← hS0]
      refine Cd.mid (fun σ' L' => Has σ' [(2, .slice none 0 0), (3, .pointer (some ⟨g3, 0, none⟩)), (4, .func (.func 87) #[] #[.pointer (some ⟨g3, 0, none⟩)]), (6, .pointer (some ⟨g6, 0, none⟩)), (23, .slice f.bA f.blocks.length f.bC), (24, .int .i64 f.blocks.length), (25, .int .i64 k)] ∧
        [blk g6 (.cells x.cells.toArray 50), blk g3 (.cells (encV (putsV S0 (x.ins.flatMap noteI) true)) 128), blk g1 (.cells f.cells.toArray 43)] = L') ?_ ?_
      · refine Cd.seq ?_
        refine Cd.region ?_
        refine Ol.p (fdl fd_api_Block_0) ?_
        refine Ol.p (ld one_L_api_Ins (Rd.blk (i := 0) rfl rfl)) ?_
        refine Ol.p (lens sl_L_api_Ins) ?_
        refine Ol.p mvi ?_
        refine Ol.nil ?_
        refine Cd.block ?_   -- 2
        refine Cd.loop (fun m σ L => ∃ j, m = x.ins.length - j ∧ j ≤ x.ins.length ∧ Has σ [(2, .slice none 0 0), (3, .pointer (some ⟨g3, 0, none⟩)), (4, .func (.func 87) #[] #[.pointer (some ⟨g3, 0, none⟩)]), (6, .pointer (some ⟨g6, 0, none⟩)), (23, .slice f.bA f.blocks.length f.bC), (24, .int .i64 f.blocks.length), (25, .int .i64 k), (30, .slice x.iA x.ins.length x.iC), (31, .int .i64 x.ins.length), (32, .int .i64 j)] ∧
          [blk g6 (.cells x.cells.toArray 50), blk g3 (.cells (encV (putsV S0 ((x.ins.take j).flatMap noteI) true)) 128), blk g1 (.cells f.cells.toArray 43)] = L) (n := x.ins.length) ⟨0, rfl, Nat.zero_le _, ⟨rfl, rfl, rfl, rfl, rfl, rfl, rfl, rfl, rfl, rfl, trivial⟩, rfl⟩ ?_
        rintro _ σ L ⟨j, rfl, hj, hs, rfl⟩
        refine Cd.has hs ?_
        clear hs
        refine Cd.seq ?_
        refine Cd.region ?_
        refine Ol.p lsi ?_
        refine Ol.nil ?_
        refine Cd.seq ?_
        refine Cd.cond rfl (fun h => ?_) (fun h => ?_)   -- $33
        · have hjl : j < x.ins.length := by
            simp only [decide_eq_true_eq] at h; omega
          obtain ⟨i, hi⟩ : ∃ i, x.ins[j]? = some i := ⟨_, List.getElem?_eq_getElem hjl⟩
          have him := List.mem_of_getElem? hi
          have hrl := readsL_len i
          have hal := hfit.alen x hxm i him
          have hia : ∀ {M : List Res} {w' : World}, Hp w w.heap.size M w' → InsAt w' i := fun hh => ⟨(hf.args x hxm i him).now hh, hal, hfit.insr x hxm i him i.callee (by simp)⟩
          have hnl2 : (noteI i).length = (readsL i).length + 1 := by simp [noteI]
          have hni : ints (readsL i) ++ [Value.int .i64 (defI i)] = ints (noteI i) := by simp [ints, noteI]
          refine Cd.skip ?_
          refine Cd.seq ?_
          refine Cd.block ?_   -- 3
          refine Cd.seq ?_
          refine Cd.region ?_
          refine Ol.p (ixn (ix := j) sl_L_api_Ins (Som.slc (hf.ins x hxm) (by omega))) ?_
          refine Ol.p (lds (es := i.cells) ag_api_Ins (hf.ins x hxm) i.len (fun j u hu => ins_cell hi hu)) ?_
          refine Ol.x (alc zr_api_Ins) ?_
          rintro _ _ ⟨g8, rfl, rfl⟩
          refine Ol.s (stw (vs := i.cells.toArray) sz_api_Ins rfl i.one (i := 0) rfl rfl) ?_
          refine Ol.nil ?_
          refine Cd.drawT (L0 := _) mixed 7 (fun opNo => match opNo with | 2 => some (NewL 3 1 (readsL i).length (ints (readsL i))) | 4 => some (Is (.int .i64 (defI i))) | 5 => some (NewSv 3 1 1 1 [.int .i64 (defI i)]) | 6 => some (NewL 3 1 (noteI i).length (ints (noteI i))) | _ => none) (fun opNo => match opNo with | 6 => [2, 5] | _ => []) (fun opNo => match opNo with | 6 => some 2 | _ => none) [] (fun _ => []) (by kernel_rfl) (.refl _) (by intro c hc; cases hc) (by intro q V h; split at h <;> cases h; exact ⟨_, _, none, 0, rfl, rfl⟩; exact ⟨_, [], rfl, rfl⟩; exact ⟨_, _, 0, rfl, rfl⟩; exact ⟨_, _, none, 0, rfl, rfl⟩) (fun u hu hu0 => ?_)
          refine WkT.p mvf ?_
          refine WkT.p (ldw ag_api_Ins (i := 0) rfl rfl) ?_
          refine WkT.xn (V := NewL 3 1 (readsL i).length (ints (readsL i))) (l := []) (l2 := []) hu rfl rfl rfl (by rw [needs_none]; exact (sp_call en_ir_Reads (fun M w' hh => ir_Reads_ct (hia hh)))) ?_
          rintro _ _ hu2 ⟨A38, c38, rfl, rfl⟩
          refine WkT.p (ldw ag_api_Ins (i := 0) rfl rfl) ?_
          refine WkT.xn (V := Is (.int .i64 (defI i))) (l := []) (l2 := []) hu rfl rfl rfl (by rw [needs_none]; exact (sp_call en_ir_Defines (fun M w' hh => ir_Defines_ct (hia hh)))) ?_
          rintro _ _ hu4 ⟨rfl, rfl⟩
          refine WkT.xn (V := NewSv 3 1 1 1 [.int .i64 (defI i)]) (l := []) (l2 := []) hu rfl rfl rfl (by rw [needs_none]; exact (NewS.adds (bsv [.int .i64 (defI i)] sl_L_int zr_int (by simp [Value.cells])))) ?_
          rintro _ _ hu5 ⟨g41, rfl, rfl⟩
          refine WkT.xn (V := NewL 3 1 (noteI i).length (ints (noteI i))) (l := [2, 5]) (l2 := [5]) hu rfl rfl rfl (by rw [needs_cons hu2, needs_cons hu5, needs_none]; exact (by rw [hnl2, ← hni]; exact Grow.adds (apn (i := 0) (m := 1) sl_L_int zr_int rfl (by decide) rfl (Src.row (i := 1) rfl rfl) (by intro u hu; simp at hu; subst hu; rfl) (by unfold maxLen; omega) (by omega)))) ?_
          rintro _ _ hu6 ⟨A42, c42, rfl, rfl⟩
          refine WkT.nil ?_
          change Ol _ _ _ _ _ (needs u [6, 5, 4] _)
          rw [needs_cons hu6, needs_cons hu5, needs_cons hu4, needs_none]
          refine Ol.x (hnote (S := putsV S0 ((x.ins.take j).flatMap noteI) true) (l := noteI i) (R := [row (.slice A42 (noteI i).length c42) 3 1 (noteI i).length (ints (noteI i))]) (L2 := [row (.slice (some ⟨g41, 0, none⟩) 1 1) 3 1 1 [.int .i64 (defI i)], blk g8 (.cells i.cells.toArray 25), blk g6 (.cells x.cells.toArray 50), blk g1 (.cells f.cells.toArray 43)]) (perm_count fun _ x => by simp only [List.count_append, List.count_cons, List.count_nil, List.cons_append, List.nil_append]; omega) (RdS.row (i := 0) rfl) (by omega) (fun n hn => noteI_range hn) rfl rfl) ?_
          rintro _ _ ⟨_, rfl, rfl, rfl⟩
          refine Ol.keep (keep_count (L' := [blk g6 (.cells x.cells.toArray 50), blk g3 (.cells (encV (putsV (putsV S0 ((x.ins.take j).flatMap noteI) true) (noteI i) true)) 128), blk g1 (.cells f.cells.toArray 43)]) [row (.slice A42 (noteI i).length c42) 3 1 (noteI i).length (ints (noteI i)), row (.slice (some ⟨g41, 0, none⟩) 1 1) 3 1 1 [.int .i64 (defI i)], blk g8 (.cells i.cells.toArray 25)] fun _ x => by simp only [List.count_append, List.count_cons, List.count_nil, List.cons_append, List.nil_append]; omega) ?_
          refine Ol.nil ?_
          refine Cd.region ?_
          refine Ol.p addi ?_
          refine Ol.p mvi ?_
          refine Ol.nil ?_
          refine ⟨x.ins.length - (j + 1), by omega, j + 1, rfl, by omega, ⟨rfl, rfl, rfl, rfl, rfl, rfl, rfl, rfl, rfl, rfl, trivial⟩, ?_⟩
          rw [take_snoc_ hi, List.flatMap_append, putsV_app]
          simp
        have hje : j = x.ins.length := by
          simp only [decide_eq_false_iff_not] at h; omega
        refine Cd.exit (id := 2) ⟨⟨rfl, rfl, rfl, rfl, rfl, rfl, rfl, trivial⟩, ?_⟩
        rw [hje, List.take_of_length_le (Nat.le_refl _)]
      rintro σ' _ ⟨hs', rfl⟩
      refine Cd.has hs' ?_
      clear hs'
      refine Cd.region ?_
      refine Ol.p mvf ?_
      refine Ol.p (fdl fd_api_Block_1) ?_
      refine Ol.p (ldp (k := 0 + 1) (vs := x.term.cells.toArray) ag_api_Term (i := 0) rfl rfl (fun j u hu => by rw [Nat.zero_add, Nat.add_comm]; simpa [RBlk.cells] using hu)) ?_
      refine Ol.x (sp_call en_ir_Needs (fun M w' hh => ir_Needs_ct (t := x.term))) ?_
      rintro _ _ ⟨_, rfl, A48, c48, rfl, rfl⟩
      refine Ol.x (hnote (S := putsV S0 (x.ins.flatMap noteI) true) (l := needsL x.term) (R := [row (.slice A48 (needsL x.term).length c48) 3 1 (needsL x.term).length (ints (needsL x.term))]) (L2 := [blk g6 (.cells x.cells.toArray 50), blk g1 (.cells f.cells.toArray 43)]) (perm_count fun _ x => by simp only [List.count_append, List.count_cons, List.count_nil, List.cons_append, List.nil_append]; omega) (RdS.row (i := 0) rfl) (by omega) (fun n hn => by have := needsL_mem hn; omega) rfl rfl) ?_
      rintro _ _ ⟨_, rfl, rfl, rfl⟩
      refine Ol.keep (.sub (.cons_cons _ (.cons _ (.cons _ (List.Sublist.refl _))))) ?_
      refine Ol.nil ?_
      refine Cd.region ?_
      refine Ol.p addi ?_
      refine Ol.p mvi ?_
      refine Ol.nil ?_
      refine ⟨f.blocks.length - (k + 1), by omega, k + 1, rfl, by omega, ⟨rfl, rfl, rfl, rfl, rfl, rfl, trivial⟩, ?_⟩
      rw [take_snoc_ hx, List.flatMap_append, ← List.append_assoc, putsV_app, ← hS0, ← putsV_app]
      simp [noteB]
    have hke : k = f.blocks.length := by
      simp only [decide_eq_false_iff_not] at h; omega
    refine Cd.exit (id := 0) ⟨⟨rfl, rfl, trivial⟩, ?_⟩
    rw [hke, List.take_of_length_le (Nat.le_refl _)]
    rfl
  rintro σ' _ ⟨hs', rfl⟩
  refine Cd.has hs' ?_
  clear hs'
  obtain ⟨S, hS⟩ : ∃ S, S = putsV noS (noteF f) true := ⟨_, rfl⟩
  rw [← hS]
  refine Cd.nr 3 1 ?_
  refine Cd.mid (fun σ' L' => ∃ A c, Has σ' [(2, .slice A (varsTo S 200).length c)] ∧ row (.slice A (varsTo S 200).length c) 3 1 (varsTo S 200).length (intsN (varsTo S 200)) :: [blk g3 (.cells (encV S) 128), blk g1 (.cells f.cells.toArray 43)] = L') ?_ ?_
  · refine Cd.seq ?_
    refine Cd.region ?_
    refine Ol.p asi ?_
    refine Ol.nil ?_
    refine Cd.block ?_   -- 4
    refine Cd.loop (fun m σ L => ∃ k A c, m = 200 - k ∧ k ≤ 200 ∧ Has σ [(2, .slice A (varsTo S k).length c), (3, .pointer (some ⟨g3, 0, none⟩)), (9, .int .i64 ((k : Int) + 1))] ∧ row (.slice A (varsTo S k).length c) 3 1 (varsTo S k).length (intsN (varsTo S k)) :: [blk g3 (.cells (encV S) 128), blk g1 (.cells f.cells.toArray 43)] = L) (n := 200) ⟨0, none, 0, rfl, Nat.zero_le _, ⟨rfl, rfl, rfl, trivial⟩, rfl⟩ ?_
    rintro _ σ L ⟨k, A, c, rfl, hk, hs, rfl⟩
    have hvl := varsTo_len S k
    have ek : (k : Int) + 1 = ((k + 1 : Nat) : Int) := by omega
    rw [ek] at hs
    refine Cd.has hs ?_
    clear hs
    refine Cd.seq ?_
    refine Cd.seq ?_
    refine Cd.region ?_
    refine Ol.p mvi ?_
    refine Ol.p lsi ?_
    refine Ol.nil ?_
    refine Cd.cond rfl (fun h => ?_) (fun h => ?_)   -- $52
    · have hlt : k + 1 < 201 := by
        simp only [decide_eq_true_eq] at h; omega
      refine Cd.skip ?_
      refine Cd.seq ?_
      refine Cd.block ?_   -- 5
      refine Cd.seq ?_
      refine Cd.region ?_
      refine Ol.p mvi ?_
      refine Ol.p (ixl1 (ix := k + 1) ar_ir_set) ?_
      refine Ol.p (ld one_bool (Rd.blk (i := 1) rfl (encV_get (i := k + 1) (by omega)))) ?_
      refine Ol.nil ?_
      have hsucc := varsTo_succ S k
      refine Cd.cond rfl (fun h2 => ?_) (fun h2 => ?_)   -- $57
      · skip
        refine Cd.region ?_
        refine Ol.p mvs ?_
        refine Ol.p mvi ?_
        refine Ol.x (bsv [.int .i64 ((k + 1 : Nat) : Int)] sl_L_int zr_int (by simp [Value.cells])) ?_
        rintro _ _ ⟨g60, rfl, rfl⟩
        refine Ol.x (apn (i := 1) (m := 1) sl_L_int zr_int rfl (by decide) rfl (Src.row (i := 0) rfl rfl) (by intro u hu; simp at hu; subst hu; rfl) (by unfold maxLen; omega) (by omega)) ?_
        rintro _ _ ⟨A', c', rfl, rfl⟩
        refine Ol.p ass ?_
        refine Ol.keep (.sub (.cons _ (List.Sublist.refl _))) ?_
        refine Ol.nil ?_
        rw [if_pos h2] at hsucc
        have e1 : (varsTo S k).length + 1 = (varsTo S (k + 1)).length := by rw [hsucc]; simp
        have e2 : intsN (varsTo S k) ++ [Value.int .i64 ((k + 1 : Nat) : Int)] = intsN (varsTo S (k + 1)) := by rw [hsucc]; simp [intsN]
        rw [e1, e2]
        refine Cd.region ?_
        refine Ol.p mvi ?_
        refine Ol.p addi ?_
        refine Ol.p asi ?_
        refine Ol.nil ?_
        exact ⟨200 - (k + 1), by omega, k + 1, A', c', rfl, by omega, ⟨rfl, rfl, rfl, trivial⟩, rfl⟩
      rw [if_neg (by rw [h2]; simp), List.append_nil] at hsucc
      refine Cd.skip ?_
      rw [← hsucc]
      refine Cd.region ?_
      refine Ol.p mvi ?_
      refine Ol.p addi ?_
      refine Ol.p asi ?_
      refine Ol.nil ?_
      exact ⟨200 - (k + 1), by omega, k + 1, A, c, rfl, by omega, ⟨rfl, rfl, rfl, trivial⟩, rfl⟩
    have hke : k = 200 := by
      simp only [decide_eq_false_iff_not] at h; omega
    subst hke
    exact Cd.exit (id := 4) ⟨A, c, ⟨rfl, trivial⟩, rfl⟩
  rintro σ' _ ⟨A, c, hs', rfl⟩
  refine Cd.has hs' ?_
  refine Cd.seq ?_
  refine Cd.region ?_
  refine Ol.p mvs ?_
  refine Ol.p ass ?_
  refine Ol.nil ?_
  exact Cd.ret ⟨_, ret1 rfl rfl, _, .sub (.cons_cons _ (.cons _ (.cons _ .slnil))), A, c, rfl, rfl⟩
end
section
theorem sizeF_ok {f : RFun} (h : okF f = true) : sizeF f = (f.blocks.map fun b => b.ins.length + 1).sum := by unfold sizeF; rw [h]; rfl
def szTo (f : RFun) (k : Nat) : Nat := ((f.blocks.take k).map fun b => b.ins.length + 1).sum
theorem szTo_succ {f : RFun} {k : Nat} {x : RBlk} (h : f.blocks[k]? = some x) : szTo f (k + 1) = szTo f k + (x.ins.length + 1) := by
  unfold szTo
  rw [take_snoc_ h]
  simp
theorem szTo_le {f : RFun} (h64 : ∀ b ∈ f.blocks, b.ins.length ≤ 64) : ∀ k, szTo f k ≤ k * 65
  | 0 => by simp [szTo]
  | k + 1 => by
    cases hx : f.blocks[k]? with
    | none =>
      have h1 := szTo_le h64 k
      have hl : f.blocks.length ≤ k := by simpa using hx
      have : szTo f (k + 1) = szTo f k := by unfold szTo; rw [List.take_of_length_le hl, List.take_of_length_le (by omega)]
      omega
    | some x =>
      have h1 := szTo_le h64 k
      have := h64 x (List.mem_of_getElem? hx)
      rw [szTo_succ hx]; omega
set_option maxHeartbeats 2000000 in
theorem ir_Size_ct {w : World} {f : RFun} (hf : FunAt w w.heap.size f) (hfit : Fit f) : Ct Try.prog 38 #[f.val] w (Is (.int .i64 (sizeF f : Nat))) := by
  have hbl := hfit.blen
  refine Ct.mk Try.func38 rfl rfl ?_
  refine Cd.seq ?_
  refine Cd.region ?_
  refine Ol.x bxg ?_
  rintro _ _ ⟨g1, rfl, rfl⟩
  refine Ol.p asi ?_
  refine Ol.nil ?_
  refine Cd.seq ?_
  cases hok : okF f with
  | false =>
    have hv : sizeF f = 0 := by unfold sizeF; rw [hok]; rfl
    rw [hv]
    refine Cd.mid (fun σ' L' => Has σ' [(11, .bool true)] ∧ [blk g1 (.cells f.cells.toArray 43)] = L') ?_ ?_
    · cases hl : longF f with
      | true =>
        refine Cd.region ?_
        refine Ol.p (ldw ag_api_Func (i := 0) rfl rfl) ?_
        refine Ol.s (cl en_ir_long (fun M w' hh => ir_long_ct (hf.now hh) hfit)) ?_
        refine Ol.p mvb ?_
        refine Ol.gn hl ?_
        refine Ol.gn hl ?_
        refine Ol.gn hl ?_
        refine Ol.p (pkTb hl) ?_
        refine Ol.nil ?_
        exact ⟨⟨rfl, trivial⟩, rfl⟩
      | false =>
        have hw : wholeF f = false := by unfold okF at hok; rw [hl] at hok; simpa using hok
        refine Cd.region ?_
        refine Ol.p (ldw ag_api_Func (i := 0) rfl rfl) ?_
        refine Ol.s (cl en_ir_long (fun M w' hh => ir_long_ct (hf.now hh) hfit)) ?_
        refine Ol.p mvb ?_
        refine Ol.gp hl (ldw ag_api_Func (i := 0) rfl rfl) ?_
        refine Ol.gs hl (cl en_ir_whole (fun M w' hh => ir_whole_ct (hf.now hh) hfit)) ?_
        refine Ol.gp hl noti ?_
        refine Ol.p (pkFb hl) ?_
        refine Ol.nil ?_
        exact ⟨⟨by show Value.bool _ = _; rw [hw]; rfl, trivial⟩, rfl⟩
    rintro σ' _ ⟨hs', rfl⟩
    refine Cd.has hs' ?_
    refine Cd.cond rfl (fun h => ?_) (fun h => by cases h)
    refine Cd.seq ?_
    refine Cd.region ?_
    refine Ol.p asi ?_
    refine Ol.nil ?_
    exact Cd.ret ⟨.int .i64 _, ret1 rfl rfl, [], .nil, rfl, rfl⟩
  | true =>
  obtain ⟨hl, hw⟩ := ok_parts hok
  obtain ⟨h0, h200, h8, h64⟩ := long_parts hl
  have hwb : (!wholeF f) = false := by rw [hw]; rfl
  refine Cd.seq ?_
  refine Cd.region ?_
  refine Ol.p (ldw ag_api_Func (i := 0) rfl rfl) ?_
  refine Ol.s (cl en_ir_long (fun M w' hh => ir_long_ct (hf.now hh) hfit)) ?_
  refine Ol.p mvb ?_
  refine Ol.gp hl (ldw ag_api_Func (i := 0) rfl rfl) ?_
  refine Ol.gs hl (cl en_ir_whole (fun M w' hh => ir_whole_ct (hf.now hh) hfit)) ?_
  refine Ol.gp hl noti ?_
  refine Ol.p (pkFb hl) ?_
  refine Ol.nil ?_
  refine Cd.cond rfl (fun h => by rw [hwb] at h; cases h) (fun h => ?_)
  refine Cd.skip ?_
  refine Cd.seq ?_
  refine Cd.seq ?_
  refine Cd.region ?_
  refine Ol.p (fdl fd_api_Func_1) ?_
  refine Ol.p (ld one_L_api_Block (Rd.blk (i := 0) rfl rfl)) ?_
  refine Ol.p (lens sl_L_api_Block) ?_
  refine Ol.p mvi ?_
  refine Ol.nil ?_
  refine Cd.block ?_
  refine Cd.loop (fun m σ L => ∃ k, m = f.blocks.length - k ∧ k ≤ f.blocks.length ∧ Has σ [(2, .int .i64 (szTo f k : Nat)), (13, .slice f.bA f.blocks.length f.bC), (14, .int .i64 f.blocks.length), (15, .int .i64 k)] ∧ [blk g1 (.cells f.cells.toArray 43)] = L) (n := f.blocks.length) ⟨0, rfl, Nat.zero_le _, ⟨rfl, rfl, rfl, rfl, trivial⟩, rfl⟩ ?_
  rintro _ σ L ⟨k, rfl, hk, hs, rfl⟩
  refine Cd.has hs ?_
  clear hs
  refine Cd.seq ?_
  refine Cd.region ?_
  refine Ol.p lsi ?_
  refine Ol.nil ?_
  refine Cd.seq ?_
  refine Cd.cond rfl (fun h => ?_) (fun h => ?_)
  · have hlt : k < f.blocks.length := by
      simp only [decide_eq_true_eq] at h; omega
    obtain ⟨x, hx⟩ : ∃ x, f.blocks[k]? = some x := ⟨_, List.getElem?_eq_getElem hlt⟩
    have hxm := List.mem_of_getElem? hx
    have hxl := h64 x hxm
    have hle := szTo_le h64 k
    have hsu := szTo_succ hx
    refine Cd.skip ?_
    refine Cd.seq ?_
    refine Cd.block ?_
    refine Cd.seq ?_
    refine Cd.region ?_
    refine Ol.p (ixn (ix := k) sl_L_api_Block (Som.slc hf.blocks (by omega))) ?_
    refine Ol.p (lds (es := x.cells) ag_api_Block hf.blocks x.len (fun j u hu => blk_cell hx hu)) ?_
    refine Ol.x (alc zr_api_Block) ?_
    rintro _ _ ⟨g4, rfl, rfl⟩
    refine Ol.s (stw (vs := x.cells.toArray) sz_api_Block rfl x.one (i := 0) rfl rfl) ?_
    refine Ol.nil ?_
    refine Cd.region ?_
    refine Ol.p mvi ?_
    refine Ol.p (fdl fd_api_Block_0) ?_
    refine Ol.p (ld one_L_api_Ins (Rd.blk (i := 0) rfl rfl)) ?_
    refine Ol.p (lens sl_L_api_Ins) ?_
    refine Ol.p addi ?_
    refine Ol.p addi ?_
    refine Ol.p asi ?_
    refine Ol.keep (.sub (.cons _ (List.Sublist.refl _))) ?_
    refine Ol.nil ?_
    refine Cd.region ?_
    refine Ol.p addi ?_
    refine Ol.p mvi ?_
    refine Ol.nil ?_
    exact ⟨f.blocks.length - (k + 1), by omega, k + 1, rfl, by omega, ⟨congrArg (Value.int .i64) (by rw [hsu]; omega), rfl, rfl, rfl, trivial⟩, rfl⟩
  have hke : k = f.blocks.length := by
    simp only [decide_eq_false_iff_not] at h; omega
  refine Cd.exit (id := 0) ?_
  refine Cd.seq ?_
  refine Cd.region ?_
  refine Ol.p mvi ?_
  refine Ol.p asi ?_
  refine Ol.nil ?_
  refine Cd.ret ⟨.int .i64 _, ret1 rfl rfl, [], .nil, ?_, rfl⟩
  rw [sizeF_ok hok, hke]
  unfold szTo
  rw [List.take_of_length_le (Nat.le_refl _)]
end
end Go.Proofs.Ytcojedoejpcolaa

/- How great a function is: walked. -/
namespace Go.Proofs.Ytcojedoejpcolaa
set_option linter.unusedVariables false
open Go Go.RowKit
set_option maxRecDepth 100000

def argSum (l : List RIns) : Nat := (l.map fun i => i.args.length).sum
def bsz (b : RBlk) : Nat := 1 + b.ins.length + argSum b.ins
def blocksSz (l : List RBlk) : Nat := (l.map bsz).sum
def RFun.sz (f : RFun) : Nat := f.params.length + blocksSz f.blocks
theorem argSum_snoc {l : List RIns} {k : Nat} {i : RIns} (h : l[k]? = some i) : argSum (l.take (k + 1)) = argSum (l.take k) + i.args.length := by
  unfold argSum
  rw [take_snoc_ h, List.map_append, List.sum_append]; simp
theorem blocksSz_snoc {l : List RBlk} {k : Nat} {b : RBlk} (h : l[k]? = some b) : blocksSz (l.take (k + 1)) = blocksSz (l.take k) + bsz b := by
  unfold blocksSz
  rw [take_snoc_ h, List.map_append, List.sum_append]; simp
theorem blocksSz_mem {l : List RBlk} {b : RBlk} (h : b ∈ l) : bsz b ≤ blocksSz l := by
  unfold blocksSz
  induction l with
  | nil => cases h
  | cons c l ih =>
    simp only [List.map_cons, List.sum_cons]
    rcases List.mem_cons.1 h with rfl | h
    · omega
    · have := ih h; omega
theorem blocksSz_len (l : List RBlk) : l.length ≤ blocksSz l := by
  unfold blocksSz
  induction l with
  | nil => simp
  | cons b l ih => simp [bsz]; omega
/-- What is counted: all, or more than the bound. -/
def Counted (n most total : Nat) : Prop := (n ≤ most → n = total) ∧ n < 2 ^ 55
theorem counted_ex {most : Nat} (hm : most < 2 ^ 40) (t : Nat) : ∃ n, Counted n most t := by
  rcases Nat.lt_or_ge most t with h | h
  · exact ⟨most + 1, fun h' => by omega, by omega⟩
  · exact ⟨t, fun _ => rfl, by omega⟩
section
set_option maxHeartbeats 1000000 in
theorem kit_BlocksOf_ct {w : World} {f : RFun} {most : Nat} (hf : FunAt w w.heap.size f) (hfit : Fit f) (hm : most < 2 ^ 40) : Ct Try.prog 77 #[.slice f.bA f.blocks.length f.bC, .int .i64 most] w (fun v R => ∃ n : Nat, v = .int .i64 n ∧ Counted n most (blocksSz f.blocks) ∧ R = []) := by
  have hbl := hfit.blen
  refine Ct.mk Try.func77 rfl rfl ?_
  refine Cd.seq ?_
  refine Cd.region ?_
  refine Ol.p asi ?_
  refine Ol.nil ?_
  refine Cd.seq ?_
  refine Cd.region ?_
  refine Ol.p asi ?_
  refine Ol.nil ?_
  refine Cd.seq ?_
  refine Cd.seq ?_
  refine Cd.region ?_
  refine Ol.p asi ?_
  refine Ol.nil ?_
  refine Cd.block ?_
  refine Cd.loop (fun m σ L => ∃ k n : Nat, m = f.blocks.length - k ∧ k ≤ f.blocks.length ∧ Has σ [(0, .slice f.bA f.blocks.length f.bC), (1, .int .i64 most), (5, .int .i64 n), (6, .int .i64 k)] ∧ L = [] ∧ Counted n most (blocksSz (f.blocks.take k))) (n := f.blocks.length) ⟨0, 0, rfl, Nat.zero_le _, ⟨rfl, rfl, rfl, rfl, trivial⟩, rfl, fun _ => rfl, by decide⟩ ?_
  rintro _ σ L ⟨k, n, rfl, hk, hs, rfl, hn⟩
  obtain ⟨hn1, hn2⟩ := hn
  refine Cd.has hs ?_
  refine Cd.seq ?_
  refine Cd.seq ?_
  cases h4 : decide ((k : Int) < (f.blocks.length : Int)) with
  | true =>
    have hlt : k < f.blocks.length := by simpa using h4
    obtain ⟨b, hb⟩ : ∃ b, f.blocks[k]? = some b := ⟨_, List.getElem?_eq_getElem hlt⟩
    have hbm : b ∈ f.blocks := List.mem_of_getElem? hb
    have hil := hfit.ilen b hbm
    have hins := hf.ins b hbm
    have hsl : Som w w.heap.size ([] : List Res) f.bA := Som.slc hf.blocks (by omega)
    have hc0 : (f.blocks.flatMap RBlk.cells)[k * 5 + 0]? = some (.slice b.iA b.ins.length b.iC) := hf.cell hb (by decide)
    refine Cd.region ?_
    refine Ol.p mvi ?_
    refine Ol.p mvs ?_
    refine Ol.p (lens sl_L_api_Block) ?_
    refine Ol.p lsi ?_
    refine Ol.p mvb ?_
    refine Ol.gp h4 mvi ?_
    refine Ol.gp h4 mvi ?_
    refine Ol.gp h4 lei ?_
    refine Ol.p (pkTb h4) ?_
    refine Ol.nil ?_
    refine Cd.cond rfl (fun h => ?_) (fun h => ?_)
    · have hle : n ≤ most := by simpa using h
      have hne := hn1 hle
      refine Cd.skip ?_
      refine Cd.mid (fun σ' L' => ∃ n' : Nat, Has σ' [(0, .slice f.bA f.blocks.length f.bC), (1, .int .i64 most), (5, .int .i64 n'), (6, .int .i64 k)] ∧ L' = [] ∧ Counted n' most (blocksSz (f.blocks.take (k + 1)))) ?_ ?_
      · refine Cd.block ?_
        refine Cd.seq ?_
        refine Cd.region ?_
        refine Ol.p mvi ?_
        refine Ol.p addi ?_
        refine Ol.p mvs ?_
        refine Ol.p mvi ?_
        refine Ol.p (ixn sl_L_api_Block hsl) ?_
        refine Ol.p (fdp fd_api_Block_0) ?_
        refine Ol.p (ld one_L_api_Ins (Rd.slc hf.blocks hc0)) ?_
        refine Ol.p (lens sl_L_api_Ins) ?_
        refine Ol.p addi ?_
        refine Ol.p asi ?_
        refine Ol.nil ?_
        refine Cd.seq ?_
        refine Cd.region ?_
        refine Ol.p asi ?_
        refine Ol.nil ?_
        refine Cd.block ?_
        refine Cd.loop (fun m σ L => ∃ j n : Nat, m = b.ins.length - j ∧ j ≤ b.ins.length ∧ Has σ [(0, .slice f.bA f.blocks.length f.bC), (1, .int .i64 most), (5, .int .i64 n), (6, .int .i64 k), (7, .int .i64 j)] ∧ L = [] ∧ (n ≤ most → n = blocksSz (f.blocks.take k) + 1 + b.ins.length + argSum (b.ins.take j)) ∧ n < 2 ^ 55 ∧ (j = 0 → n ≤ most + 1 + b.ins.length)) (n := b.ins.length) ⟨0, n + 1 + b.ins.length, rfl, Nat.zero_le _, ⟨rfl, rfl, rfl, rfl, rfl, trivial⟩, rfl, fun _ => by rw [hne]; rfl, by omega, fun _ => by omega⟩ ?_
        rintro _ σ L ⟨j, n, rfl, hj, hs, rfl, hq1, hq2, hq3⟩
        refine Cd.has hs ?_
        refine Cd.seq ?_
        refine Cd.seq ?_
        cases h8 : decide ((j : Int) < (b.ins.length : Int)) with
        | true =>
          have hjl : j < b.ins.length := by simpa using h8
          obtain ⟨i, hi⟩ : ∃ i, b.ins[j]? = some i := ⟨_, List.getElem?_eq_getElem hjl⟩
          have him : i ∈ b.ins := List.mem_of_getElem? hi
          have hal := hfit.alen b hbm i him
          have hc6 : (b.ins.flatMap RIns.cells)[j * 8 + 6]? = some (.slice i.aA i.args.length i.aC) := flat_get RIns.len _ _ _ _ hi (by decide)
          refine Cd.region ?_
          refine Ol.p mvi ?_
          refine Ol.p mvs ?_
          refine Ol.p mvi ?_
          refine Ol.p (ixn sl_L_api_Block hsl) ?_
          refine Ol.p (fdp fd_api_Block_0) ?_
          refine Ol.p (ld one_L_api_Ins (Rd.slc hf.blocks hc0)) ?_
          refine Ol.p (lens sl_L_api_Ins) ?_
          refine Ol.p lsi ?_
          refine Ol.p mvb ?_
          refine Ol.gp h8 mvi ?_
          refine Ol.gp h8 mvi ?_
          refine Ol.gp h8 lei ?_
          refine Ol.p (pkTb h8) ?_
          refine Ol.nil ?_
          refine Cd.cond rfl (fun h => ?_) (fun h => ?_)
          · have hle : n ≤ most := by simpa using h
            refine Cd.skip ?_
            refine Cd.seq ?_
            refine Cd.block ?_
            refine Cd.region ?_
            refine Ol.p mvi ?_
            refine Ol.p mvs ?_
            refine Ol.p mvi ?_
            refine Ol.p (ixn sl_L_api_Block hsl) ?_
            refine Ol.p (fdp fd_api_Block_0) ?_
            refine Ol.p (ld one_L_api_Ins (Rd.slc hf.blocks hc0)) ?_
            refine Ol.p mvi ?_
            refine Ol.p (ixn sl_L_api_Ins (Som.slc hins (by omega))) ?_
            refine Ol.p (fdp fd_api_Ins_6) ?_
            refine Ol.p (ld one_L_int (Rd.slc hins hc6)) ?_
            refine Ol.p (lens sl_L_int) ?_
            refine Ol.p addi ?_
            refine Ol.p asi ?_
            refine Ol.nil ?_
            refine Cd.region ?_
            refine Ol.p mvi ?_
            refine Ol.p addi ?_
            refine Ol.p asi ?_
            refine Ol.nil ?_
            refine ⟨b.ins.length - (j + 1), by omega, j + 1, n + i.args.length, rfl, by omega, ⟨rfl, rfl, rfl, rfl, rfl, trivial⟩, rfl, fun h' => ?_, by omega, fun h' => by omega⟩
            rw [argSum_snoc hi, hq1 hle]
            omega
          · have hgt : most < n := by
              have : ¬ (n : Int) ≤ most := by simpa using h
              omega
            refine Cd.exit (id := 2) ?_
            exact ⟨n, ⟨rfl, rfl, rfl, rfl, trivial⟩, rfl, fun h' => by omega, hq2⟩
        | false =>
          have hje : j = b.ins.length := by
            have : ¬ (j : Int) < b.ins.length := by simpa using h8
            omega
          refine Cd.region ?_
          refine Ol.p mvi ?_
          refine Ol.p mvs ?_
          refine Ol.p mvi ?_
          refine Ol.p (ixn sl_L_api_Block hsl) ?_
          refine Ol.p (fdp fd_api_Block_0) ?_
          refine Ol.p (ld one_L_api_Ins (Rd.slc hf.blocks hc0)) ?_
          refine Ol.p (lens sl_L_api_Ins) ?_
          refine Ol.p lsi ?_
          refine Ol.p mvb ?_
          refine Ol.gn h8 ?_
          refine Ol.gn h8 ?_
          refine Ol.gn h8 ?_
          refine Ol.p (pkFb h8) ?_
          refine Ol.nil ?_
          refine Cd.cond rfl (fun h => by cases h) (fun h => ?_)
          refine Cd.exit (id := 2) ?_
          refine ⟨n, ⟨rfl, rfl, rfl, rfl, trivial⟩, rfl, fun h' => ?_, hq2⟩
          rw [hq1 h', hje, List.take_length, blocksSz_snoc hb]
          unfold bsz; omega
      · rintro σ' _ ⟨n', hs', rfl, hn'⟩
        refine Cd.has hs' ?_
        refine Cd.region ?_
        refine Ol.p mvi ?_
        refine Ol.p addi ?_
        refine Ol.p asi ?_
        refine Ol.nil ?_
        exact ⟨f.blocks.length - (k + 1), by omega, k + 1, n', rfl, by omega, ⟨rfl, rfl, rfl, rfl, trivial⟩, rfl, hn'⟩
    · have hgt : most < n := by
        have : ¬ (n : Int) ≤ most := by simpa using h
        omega
      refine Cd.exit (id := 0) ?_
      refine Cd.seq ?_
      refine Cd.region ?_
      refine Ol.p mvi ?_
      refine Ol.p asi ?_
      refine Ol.nil ?_
      exact Cd.ret ⟨.int .i64 _, ret1 rfl rfl, [], .nil, n, rfl, ⟨fun h' => by omega, hn2⟩, rfl⟩
  | false =>
    have hke : k = f.blocks.length := by
      have : ¬ (k : Int) < f.blocks.length := by simpa using h4
      omega
    subst hke
    refine Cd.region ?_
    refine Ol.p mvi ?_
    refine Ol.p mvs ?_
    refine Ol.p (lens sl_L_api_Block) ?_
    refine Ol.p lsi ?_
    refine Ol.p mvb ?_
    refine Ol.gn h4 ?_
    refine Ol.gn h4 ?_
    refine Ol.gn h4 ?_
    refine Ol.p (pkFb h4) ?_
    refine Ol.nil ?_
    refine Cd.cond rfl (fun h => by cases h) (fun h => ?_)
    refine Cd.exit (id := 0) ?_
    refine Cd.seq ?_
    refine Cd.region ?_
    refine Ol.p mvi ?_
    refine Ol.p asi ?_
    refine Ol.nil ?_
    rw [List.take_length] at hn1
    exact Cd.ret ⟨.int .i64 _, ret1 rfl rfl, [], .nil, n, rfl, ⟨hn1, hn2⟩, rfl⟩
theorem kit_FuncOf_ct {w : World} {f : RFun} {most : Nat} (hf : FunAt w w.heap.size f) (hfit : Fit f) (hm : most < 2 ^ 40) : Ct Try.prog 29 #[f.val, .int .i64 most] w (fun v R => ∃ n : Nat, v = .int .i64 n ∧ (n ≤ most → n = f.sz) ∧ n < 2 ^ 56 ∧ R = []) := by
  have hpl := hfit.plen
  refine Ct.mk Try.func29 rfl rfl ?_
  refine Cd.seq ?_
  refine Cd.region ?_
  refine Ol.x bxg ?_
  rintro _ _ ⟨g2, rfl, rfl⟩
  refine Ol.p asi ?_
  refine Ol.nil ?_
  refine Cd.seq ?_
  refine Cd.draw mixed 8 (fun j => match j with | 6 => some (fun v R => ∃ n : Nat, v = .int .i64 n ∧ Counted n most (blocksSz f.blocks) ∧ R = []) | _ => none) (fun _ => []) (by kernel_rfl) (by intro j V h; split at h <;> cases h; obtain ⟨n, hn⟩ := counted_ex hm (blocksSz f.blocks); exact ⟨_, _, n, rfl, hn, rfl⟩) (fun u hu => ?_)
  refine Wk.p (fdl fd_api_Func_0) ?_
  refine Wk.p (ld one_L_int (Rd.blk (i := 0) rfl rfl)) ?_
  refine Wk.p (lens sl_L_int) ?_
  refine Wk.p (fdl fd_api_Func_1) ?_
  refine Wk.p (ld one_L_api_Block (Rd.blk (i := 0) rfl rfl)) ?_
  refine Wk.p mvi ?_
  refine Wk.x hu (sp_call en_kit_BlocksOf (fun M w' hh => kit_BlocksOf_ct (hf.now hh) hfit hm)) ?_
  rintro _ _ hu6 ⟨n, rfl, ⟨hn1, hn2⟩, rfl⟩
  refine Wk.p addi ?_
  refine Wk.nil ?_
  rw [needs_cons hu6, needs_none]
  refine Ol.p asi ?_
  refine Ol.nil ?_
  exact Cd.ret ⟨.int .i64 _, ret1 rfl rfl, [], .nil, f.params.length + n, rfl, fun h' => by rw [hn1 (by omega)]; rfl, by omega, rfl⟩
end
end Go.Proofs.Ytcojedoejpcolaa

/- Picking. -/
namespace Go.Proofs.Ytcojedoejpcolaa
set_option linter.unusedVariables false
open Go Go.RowKit
set_option maxRecDepth 100000
section
def pickF (x : Int) (n : Nat) : Nat := (x % (n : Int)).toNat
theorem pickF_lt {x : Int} {n : Nat} (h : 0 < n) : pickF x n < n := by
  unfold pickF
  have h1 := Int.emod_nonneg x (b := (n : Int)) (by omega)
  have h2 := Int.emod_lt_of_pos x (b := (n : Int)) (by omega)
  omega
theorem kit_Pick_ct {w : World} {x : Int} {n : Nat} (hn : 0 < n) (hn2 : n < 2 ^ 62) : Ct Try.prog 31 #[.int .i64 x, .int .i64 n] w (Is (.int .i64 (pickF x n : Int))) := by
  have hr := Int.tmod_lt_of_pos x (b := (n : Int)) (by omega)
  have hr2 : -(n : Int) < x.tmod n := by
    have h1 := Int.emod_nonneg x (b := (n : Int)) (by omega)
    have h2 := Int.emod_lt_of_pos x (b := (n : Int)) (by omega)
    have h3 := Int.tmod_eq_emod (a := x) (b := (n : Int))
    by_cases hx : 0 ≤ x ∨ (n : Int) ∣ x
    · rw [if_pos hx] at h3; omega
    · rw [if_neg hx] at h3
      have h4 : x % (n : Int) ≠ 0 := fun e => hx (.inr (Int.dvd_of_emod_eq_zero e))
      omega
  have e1 : ¬ (x.tmod n < 0) → x.tmod n = (pickF x n : Int) := fun h => by
    unfold pickF
    have h1 := Int.emod_nonneg x (b := (n : Int)) (by omega)
    have h2 := Int.emod_lt_of_pos x (b := (n : Int)) (by omega)
    have h3 := Int.tmod_eq_emod (a := x) (b := (n : Int))
    rw [Int.toNat_of_nonneg h1]
    split at h3 <;> omega
  have e2 : x.tmod n < 0 → x.tmod n + n = (pickF x n : Int) := fun h => by
    unfold pickF
    have h1 := Int.emod_nonneg x (b := (n : Int)) (by omega)
    have h2 := Int.emod_lt_of_pos x (b := (n : Int)) (by omega)
    have h3 := Int.tmod_eq_emod (a := x) (b := (n : Int))
    rw [Int.toNat_of_nonneg h1]
    split at h3 <;> omega
  refine Ct.mk Try.func31 rfl rfl ?_
  refine Cd.seq ?_
  refine Cd.region ?_
  refine Ol.p asi ?_
  refine Ol.nil ?_
  refine Cd.seq ?_
  refine Cd.seq ?_
  refine Cd.region ?_
  refine Ol.p mvi ?_
  refine Ol.p lsi ?_
  refine Ol.nil ?_
  refine Cd.cond rfl (fun h => ?_) (fun h => ?_)
  · simp at h; omega
  refine Cd.skip ?_
  refine Cd.seq ?_
  refine Cd.region ?_
  refine Ol.p mvi ?_
  refine Ol.p mvi ?_
  refine Ol.p remi ?_
  refine Ol.p asi ?_
  refine Ol.nil ?_
  refine Cd.seq ?_
  refine Cd.seq ?_
  refine Cd.region ?_
  refine Ol.p mvi ?_
  refine Ol.p lsi ?_
  refine Ol.nil ?_
  refine Cd.cond rfl (fun h => ?_) (fun h => ?_)
  · have h' : x.tmod n < 0 := by simpa using h
    refine Cd.region ?_
    refine Ol.p mvi ?_
    refine Ol.p mvi ?_
    refine Ol.p addi ?_
    refine Ol.p asi ?_
    refine Ol.nil ?_
    refine Cd.seq ?_
    refine Cd.region ?_
    refine Ol.p mvi ?_
    refine Ol.p asi ?_
    refine Ol.nil ?_
    refine Cd.ret ⟨_, ret1 rfl rfl, [], .nil, ?_, rfl⟩
    rw [← e2 h']
    rfl
  · have h' : ¬ x.tmod n < 0 := by simpa using h
    refine Cd.skip ?_
    refine Cd.seq ?_
    refine Cd.region ?_
    refine Ol.p mvi ?_
    refine Ol.p asi ?_
    refine Ol.nil ?_
    refine Cd.ret ⟨_, ret1 rfl rfl, [], .nil, ?_, rfl⟩
    rw [← e1 h']
    rfl
end
end Go.Proofs.Ytcojedoejpcolaa

/- The law 03: its example; IrSafe, walked. -/
namespace Go.Proofs.Ytcojedoejpcolaa
set_option linter.unusedVariables false
open Go Go.RowKit
set_option maxRecDepth 100000

theorem reads_no {w : World} {B s : Nat} : Reads w B s none 0 [] := ⟨by simp, fun h => absurd h (by omega)⟩
theorem exposed_mid : ∀ {l : List RIns} {t : Tm} {v : Int} {k : Nat} {i : RIns}, l[k]? = some i → (∀ j, j < k → ∀ i', l[j]? = some i' → defI i' ≠ v) → v ∈ readsL i → exposed l t v = true
  | [], _, _, _, _, h, _, _ => by simp at h
  | a :: l, t, v, 0, i, h, _, hv => by
    have : a = i := by simpa using h
    subst this
    unfold exposed
    rw [Bool.or_eq_true]
    exact .inl (by simpa using hv)
  | a :: l, t, v, k + 1, i, h, hd, hv => by
    unfold exposed
    rw [Bool.or_eq_true, Bool.and_eq_true]
    refine .inr ⟨?_, exposed_mid (k := k) (i := i) (by simpa using h) (fun j hj i' hi' => hd (j + 1) (by omega) i' (by simpa using hi')) hv⟩
    have := hd 0 (by omega) a (by simp)
    simpa using this
theorem exposed_end : ∀ {l : List RIns} {t : Tm} {v : Int}, (∀ i ∈ l, defI i ≠ v) → v ∈ needsL t → exposed l t v = true
  | [], t, v, _, hv => by unfold exposed; simpa using hv
  | a :: l, t, v, hd, hv => by
    unfold exposed
    rw [Bool.or_eq_true, Bool.and_eq_true]
    exact .inr ⟨by simpa using hd a (by simp), exposed_end (fun i hi => hd i (by simp [hi])) hv⟩
section
def I03 : List RIns := [⟨1, 1, 0, 0, 5, 0, none, 0, [], 0⟩]
def B03 (gi : Nat) (a : Int) : RBlk := ⟨some ⟨gi, 0, none⟩, 1, I03, ⟨3, a, 0, 0⟩⟩
def F03 (gb gi : Nat) (a : Int) : RFun := ⟨none, 0, [], some ⟨gb, 0, none⟩, 1, [B03 gi a]⟩
theorem F03_fit {gb gi : Nat} {a : Int} (h : a = 1 ∨ a = 2) : Fit (F03 gb gi a) := by
  rcases h with rfl | rfl <;> constructor <;> simp [F03, B03, I03]
theorem F03_at {w : World} {B gb gi : Nat} {a : Int} (h : Reads w B 5 (some ⟨gb, 0, none⟩) 1 ((F03 gb gi a).blocks.flatMap RBlk.cells)) (hi : Reads w B 8 (some ⟨gi, 0, none⟩) 1 (I03.flatMap RIns.cells)) : FunAt w B (F03 gb gi a) := by
  refine ⟨reads_no, h, ?_, ?_⟩
  · intro b hb
    simp [F03] at hb
    subst hb
    exact hi
  · intro b hb i hi
    simp [F03] at hb
    subst hb
    simp [B03, I03] at hi
    subst hi
    exact reads_no
theorem F03_blk {gb gi b : Nat} {a : Int} {x : RBlk} (hx : (F03 gb gi a).blocks[b]? = some x) : b = 0 ∧ x = B03 gi a := by
  have h0 : b = 0 := by
    have := (List.getElem?_eq_some_iff.1 hx).1
    simp [F03] at this; exact this
  subst h0
  exact ⟨rfl, by simpa [F03] using hx.symm⟩
theorem F03_ord {gb gi : Nat} {a : Int} (h : a = 1 ∨ a = 2) : decide ((orderF (F03 gb gi a).terms).length < (F03 gb gi a).blocks.length) = false := by
  rw [decide_eq_false_iff_not]
  have : (0 : Nat) ∈ orderF (F03 gb gi a).terms := by
    rcases h with rfl | rfl
    · exact List.contains_iff_mem.1 (show (orderF [(⟨3, 1, 0, 0⟩ : Tm)]).contains 0 = true by kernel_rfl)
    · exact List.contains_iff_mem.1 (show (orderF [(⟨3, 2, 0, 0⟩ : Tm)]).contains 0 = true by kernel_rfl)
  have h1 := List.length_pos_of_mem this
  have h2 : (F03 gb gi a).blocks.length = 1 := rfl
  omega
theorem e03r : readsL ⟨1, 1, 0, 0, 5, 0, none, 0, [], 0⟩ = [] := by kernel_rfl
theorem e03d : defI ⟨1, 1, 0, 0, 5, 0, none, 0, [], 0⟩ = 1 := by kernel_rfl
theorem F03_r1 {gb gi : Nat} : rightF (F03 gb gi 1) = 0 := by
  rw [rightF_iff]
  refine ⟨by kernel_rfl, by kernel_rfl, by kernel_rfl, by have := F03_ord (gb := gb) (gi := gi) (.inl rfl); simpa using this, ?_⟩
  rw [valuedF_iff]
  intro b x v hx he
  obtain ⟨rfl, rfl⟩ := F03_blk hx
  exfalso
  have e5 : needsL ⟨3, 1, 0, 0⟩ = [1] := by kernel_rfl
  simp [B03, I03, exposed, e03r, e03d, e5] at he
  omega
theorem F03_v2 {gb gi : Nat} : valuedF (F03 gb gi 2) = false := by
  rw [← Bool.not_eq_true, valuedF_iff]
  intro h
  have e5 : needsL ⟨3, 2, 0, 0⟩ = [2] := by kernel_rfl
  refine h 0 (B03 gi 2) 2 rfl ?_ (.zero fun p hp => ?_)
  · simp [B03, I03, exposed, e03r, e03d, e5]
  · simp [F03] at hp
theorem F03_r2 {gb gi : Nat} : rightF (F03 gb gi 2) = 8 := by
  unfold rightF
  rw [show longF (F03 gb gi 2) = false by kernel_rfl, show wholeF (F03 gb gi 2) = true by kernel_rfl, show okEs (F03 gb gi 2).terms = true by kernel_rfl, F03_ord (.inr rfl), F03_v2]
  rfl
theorem F03_vars {gb gi : Nat} : (varsF (F03 gb gi 1)).length = 1 := by kernel_rfl
theorem F03_size {gb gi : Nat} : sizeF (F03 gb gi 1) = 2 := by kernel_rfl
set_option maxHeartbeats 2000000 in
theorem law03_awake_ct {w : World} : Ct Try.prog 12 #[] w (Is (.bool true)) := by
  refine Ct.mk Try.func12 rfl rfl ?_
  refine Cd.seq ?_
  refine Cd.region ?_
  refine Ol.p asb ?_
  refine Ol.nil ?_
  refine Cd.seq ?_
  refine Cd.region ?_
  refine Ol.p (bds (cs := (RIns.cells ⟨1, 1, 0, 0, 5, 0, none, 0, [], 0⟩).toArray) bs_api_Ins zr_api_Ins (hf := by kernel_rfl)) ?_
  refine Ol.x (bsn [RIns.val ⟨1, 1, 0, 0, 5, 0, none, 0, [], 0⟩] sl_L_api_Ins zr_api_Ins (by intro v hv; simp at hv; subst hv; rfl) rfl (by decide) (by decide)) ?_
  rintro _ _ ⟨gi, rfl, rfl⟩
  refine Ol.p (bds (cs := #[.int .i64 3, .int .i64 1, .int .i64 0, .int .i64 0]) bs_api_Term zr_api_Term (hf := by kernel_rfl)) ?_
  refine Ol.p (bds (cs := #[.slice (some ⟨gi, 0, none⟩) 1 1, .int .i64 3, .int .i64 1, .int .i64 0, .int .i64 0]) bs_api_Block zr_api_Block (hf := by kernel_rfl)) ?_
  refine Ol.x (bsn [RBlk.val (B03 gi 1)] sl_L_api_Block zr_api_Block (by intro v hv; simp at hv; subst hv; rfl) rfl (by decide) (by decide)) ?_
  rintro _ _ ⟨gb, rfl, rfl⟩
  refine Ol.p (bds (cs := #[.slice none 0 0, .slice (some ⟨gb, 0, none⟩) 1 1]) bs_api_Func zr_api_Func (hf := by kernel_rfl)) ?_
  refine Ol.x (alc zr_api_Func) ?_
  rintro _ _ ⟨g1, rfl, rfl⟩
  refine Ol.s (stw (vs := #[.slice none 0 0, .slice (some ⟨gb, 0, none⟩) 1 1]) sz_api_Func rfl (by intro u hu; simp at hu; rcases hu with rfl | rfl <;> rfl) (i := 0) rfl rfl) ?_
  refine Ol.nil ?_
  refine Cd.seq ?_
  refine Cd.region ?_
  refine Ol.p (fdl fd_api_Func_1) ?_
  refine Ol.p (ld one_L_api_Block (Rd.blk (i := 0) rfl rfl)) ?_
  refine Ol.p (ixn (ix := 0) sl_L_api_Block (Som.row (i := 1) rfl Nat.one_pos)) ?_
  refine Ol.p (fdp fd_api_Block_0) ?_
  refine Ol.p (ld (v := .slice (some ⟨gi, 0, none⟩) 1 1) one_L_api_Ins (Rd.row (i := 1) rfl rfl)) ?_
  refine Ol.p (bds (cs := #[.int .i64 3, .int .i64 2, .int .i64 0, .int .i64 0]) bs_api_Term zr_api_Term (hf := by kernel_rfl)) ?_
  refine Ol.p (bds (cs := #[.slice (some ⟨gi, 0, none⟩) 1 1, .int .i64 3, .int .i64 2, .int .i64 0, .int .i64 0]) bs_api_Block zr_api_Block (hf := by kernel_rfl)) ?_
  refine Ol.x (bsn [RBlk.val (B03 gi 2)] sl_L_api_Block zr_api_Block (by intro v hv; simp at hv; subst hv; rfl) rfl (by decide) (by decide)) ?_
  rintro _ _ ⟨gb2, rfl, rfl⟩
  refine Ol.p (bds (cs := #[.slice none 0 0, .slice (some ⟨gb2, 0, none⟩) 1 1]) bs_api_Func zr_api_Func (hf := by kernel_rfl)) ?_
  refine Ol.x (alc zr_api_Func) ?_
  rintro _ _ ⟨g2, rfl, rfl⟩
  refine Ol.s (stw (vs := #[.slice none 0 0, .slice (some ⟨gb2, 0, none⟩) 1 1]) sz_api_Func rfl (by intro u hu; simp at hu; rcases hu with rfl | rfl <;> rfl) (i := 0) rfl rfl) ?_
  refine Ol.nil ?_
  have hv := F03_vars (gb := gb) (gi := gi)
  have hf1 : ∀ {M : List Res} {w' : World}, Hp w w.heap.size (M ++ [blk g2 (.cells #[.slice none 0 0, .slice (some ⟨gb2, 0, none⟩) 1 1] 43), row (.slice (some ⟨gb2, 0, none⟩) 1 1) 50 5 1 ((B03 gi 2).cells), blk g1 (.cells #[.slice none 0 0, .slice (some ⟨gb, 0, none⟩) 1 1] 43), row (.slice (some ⟨gb, 0, none⟩) 1 1) 50 5 1 ((B03 gi 1).cells), row (.slice (some ⟨gi, 0, none⟩) 1 1) 25 8 1 (I03.flatMap RIns.cells)]) w' → FunAt w' w'.heap.size (F03 gb gi 1) := fun hh => F03_at (Reads.row hh (i := 3) rfl) (Reads.row hh (i := 4) rfl)
  have hf2 : ∀ {M : List Res} {w' : World}, Hp w w.heap.size (M ++ [blk g2 (.cells #[.slice none 0 0, .slice (some ⟨gb2, 0, none⟩) 1 1] 43), row (.slice (some ⟨gb2, 0, none⟩) 1 1) 50 5 1 ((B03 gi 2).cells), blk g1 (.cells #[.slice none 0 0, .slice (some ⟨gb, 0, none⟩) 1 1] 43), row (.slice (some ⟨gb, 0, none⟩) 1 1) 50 5 1 ((B03 gi 1).cells), row (.slice (some ⟨gi, 0, none⟩) 1 1) 25 8 1 (I03.flatMap RIns.cells)]) w' → FunAt w' w'.heap.size (F03 gb2 gi 2) := fun hh => F03_at (Reads.row hh (i := 1) rfl) (Reads.row hh (i := 4) rfl)
  have hr1 : decide (rightF (F03 gb gi 1) = 0) = true := by rw [F03_r1]; rfl
  have hr2 : decide (rightF (F03 gb2 gi 2) = 8) = true := by rw [F03_r2]; rfl
  have hv1 : decide (((varsF (F03 gb gi 1)).length : Int) = 1) = true := by rw [hv]; rfl
  refine Cd.seq ?_
  refine Cd.region ?_
  refine Ol.p (ldw ag_api_Func (i := 2) rfl rfl) ?_
  refine Ol.s (cl en_ir_Right (fun M w' hh => ir_Right_ct (f := F03 gb gi 1) (hf1 hh) (F03_fit (.inl rfl)))) ?_
  refine Ol.p eqi ?_
  refine Ol.p mvb ?_
  refine Ol.gp hr1 (ldw ag_api_Func (i := 0) rfl rfl) ?_
  refine Ol.gs hr1 (cl en_ir_Right (fun M w' hh => ir_Right_ct (f := F03 gb2 gi 2) (hf2 hh) (F03_fit (.inr rfl)))) ?_
  refine Ol.gp hr1 eqi ?_
  refine Ol.p (pkTb hr1) ?_
  refine Ol.p mvb ?_
  refine Ol.gp hr2 (ldw ag_api_Func (i := 2) rfl rfl) ?_
  refine Ol.gx hr2 (sp_call en_ir_Vars (fun M w' hh => ir_Vars_ct (f := F03 gb gi 1) (hf1 hh) (F03_fit (.inl rfl)))) ?_
  rintro _ _ ⟨_, rfl, A28, c28, rfl, rfl⟩
  refine Ol.gp hr2 (lens sl_L_int) ?_
  refine Ol.gp hr2 eqi ?_
  refine Ol.p (pkTb hr2) ?_
  refine Ol.p mvb ?_
  refine Ol.gp hv1 (ldw ag_api_Func (i := 3) rfl rfl) ?_
  refine Ol.gs hv1 (cl en_ir_Size (fun M w' hh => ir_Size_ct (f := F03 gb gi 1) (F03_at (Reads.row hh (i := 4) rfl) (Reads.row hh (i := 5) rfl)) (F03_fit (.inl rfl)))) ?_
  refine Ol.gp hv1 eqi ?_
  refine Ol.p (pkTb hv1) ?_
  refine Ol.p asb ?_
  refine Ol.nil ?_
  refine Cd.ret ⟨.bool _, ret1 rfl rfl, _, .nil, ?_, rfl⟩
  rw [F03_size]
  rfl
end
section
set_option maxHeartbeats 8000000 in
theorem law03_IrSafe_ct {w : World} {f : RFun} {Aw : Option Addr} {cw : Nat} {way : List Int} (hf : FunAt w w.heap.size f) (hfit : Fit f) (hw : Reads w w.heap.size 1 Aw way.length (ints way)) (hwl : way.length < 2 ^ 60) : Ct Try.prog 4 #[f.val, .slice Aw way.length cw] w (Is (.bool true)) := by
  have hbl := hfit.blen
  have hpl := hfit.plen
  refine Ct.mk Try.func4 rfl rfl ?_
  refine Cd.seq ?_
  refine Cd.region ?_
  refine Ol.x bxg ?_
  rintro _ _ ⟨g2, rfl, rfl⟩
  refine Ol.p asb ?_
  refine Ol.nil ?_
  refine Cd.seq ?_
  refine Cd.seq ?_
  refine Cd.region ?_
  refine Ol.s (cl en_law03_awake (fun M w' hh => law03_awake_ct)) ?_
  refine Ol.p noti ?_
  refine Ol.nil ?_
  refine Cd.cond rfl (fun h => by cases h) (fun h => ?_)
  refine Cd.skip ?_
  refine Cd.seq ?_
  refine Cd.mid (fun σ' L' => ∃ b : Bool, (b = false → way.length ≤ 300 ∧ rightF f = 0) ∧ Has σ' [(1, .slice Aw way.length cw), (2, .pointer (some ⟨g2, 0, none⟩)), (29, .bool b)] ∧ [blk g2 (.cells f.cells.toArray 43)] = L') ?_ ?_
  · skip
    refine Cd.region ?_
    refine Ol.p (ldw ag_api_Func (i := 0) rfl rfl) ?_
    refine Ol.x (sp_call en_kit_FuncOf (fun M w' hh => kit_FuncOf_ct (hf.now hh) hfit (most := 700) (by decide))) ?_
    rintro _ _ ⟨_, rfl, N, rfl, hN1, hN2, rfl⟩
    cases h3 : decide ((700 : Int) < (N : Int)) with
    | true =>
      refine Ol.p gti ?_
      refine Ol.p mvb ?_
      refine Ol.gn h3 ?_
      refine Ol.gn h3 ?_
      refine Ol.gn h3 ?_
      refine Ol.p (pkTb h3) ?_
      refine Ol.p mvb ?_
      refine Ol.gn rfl ?_
      refine Ol.gn rfl ?_
      refine Ol.gn rfl ?_
      refine Ol.p (pkTb rfl) ?_
      refine Ol.nil ?_
      exact ⟨true, (fun h => by cases h), ⟨rfl, rfl, rfl, trivial⟩, rfl⟩
    | false =>
      cases h8 : decide ((300 : Int) < (way.length : Int)) with
      | true =>
        refine Ol.p gti ?_
        refine Ol.p mvb ?_
        refine Ol.gp h3 mvs ?_
        refine Ol.gp h3 (lens sl_L_int) ?_
        refine Ol.gp h3 gti ?_
        refine Ol.p (pkFb h3) ?_
        refine Ol.p mvb ?_
        refine Ol.gn h8 ?_
        refine Ol.gn h8 ?_
        refine Ol.gn h8 ?_
        refine Ol.p (pkTb h8) ?_
        refine Ol.nil ?_
        exact ⟨true, (fun h => by cases h), ⟨rfl, rfl, rfl, trivial⟩, rfl⟩
      | false =>
        refine Ol.p gti ?_
        refine Ol.p mvb ?_
        refine Ol.gp h3 mvs ?_
        refine Ol.gp h3 (lens sl_L_int) ?_
        refine Ol.gp h3 gti ?_
        refine Ol.p (pkFb h3) ?_
        refine Ol.p mvb ?_
        refine Ol.gp h8 (ldw ag_api_Func (i := 0) rfl rfl) ?_
        refine Ol.gs h8 (cl en_ir_Right (fun M w' hh => ir_Right_ct (hf.now hh) hfit)) ?_
        refine Ol.gp h8 nei ?_
        refine Ol.p (pkFb h8) ?_
        refine Ol.nil ?_
        exact ⟨_, (fun h => ⟨by simp only [decide_eq_false_iff_not] at h8; omega, by simpa using h⟩), ⟨rfl, rfl, rfl, trivial⟩, rfl⟩
  rintro σ' _ ⟨b29, hb29, hs', rfl⟩
  refine Cd.has hs' ?_
  refine Cd.cond rfl (fun h => ?_) (fun h => ?_)
  · refine Cd.seq ?_
    refine Cd.region ?_
    refine Ol.p asb ?_
    refine Ol.nil ?_
    exact Cd.ret ⟨.bool _, ret1 rfl rfl, [], .nil, rfl, rfl⟩
  obtain ⟨hw300, hr⟩ := hb29 h
  clear hs' h hb29
  obtain ⟨hlong, hwhole, hok, hord, hval⟩ := rightF_iff.1 hr
  obtain ⟨h0, h200, h8, h64⟩ := long_parts hlong
  have hprm := whole_params hwhole
  refine Cd.skip ?_
  refine Cd.seq ?_
  refine Cd.region ?_
  refine Ol.x (alc zr_A201_bool) ?_
  rintro _ _ ⟨g5, rfl, rfl⟩
  refine Ol.nil ?_
  -- the parameters
  refine Cd.mid (fun σ' L' => ∃ S : VS, (∀ v, S v = false → ∀ p ∈ f.params, p.toNat ≠ v) ∧ Has σ' [(1, .slice Aw way.length cw), (2, .pointer (some ⟨g2, 0, none⟩)), (5, .pointer (some ⟨g5, 0, none⟩))] ∧ [blk g5 (.cells (encV S) 47), blk g2 (.cells f.cells.toArray 43)] = L') ?_ ?_
  · refine Cd.seq ?_
    refine Cd.region ?_
    refine Ol.p asi ?_
    refine Ol.nil ?_
    refine Cd.block ?_
    refine Cd.loop (fun m σ L => ∃ k, m = f.params.length - k ∧ k ≤ f.params.length ∧ Has σ [(1, .slice Aw way.length cw), (2, .pointer (some ⟨g2, 0, none⟩)), (5, .pointer (some ⟨g5, 0, none⟩)), (6, .int .i64 k)] ∧ [blk g5 (.cells (encV (putsV noS (f.params.take k) true)) 47), blk g2 (.cells f.cells.toArray 43)] = L) (n := f.params.length) ⟨0, rfl, Nat.zero_le _, ⟨rfl, rfl, rfl, rfl, trivial⟩, by rw [show putsV noS (f.params.take 0) true = fun _ => false from rfl, ← zeroV]; rfl⟩ ?_
    rintro _ σ L ⟨k, rfl, hk, hs, rfl⟩
    refine Cd.has hs ?_
    clear hs
    refine Cd.seq ?_
    refine Cd.seq ?_
    refine Cd.region ?_
    refine Ol.p mvi ?_
    refine Ol.p (fdl fd_api_Func_0) ?_
    refine Ol.p (ld one_L_int (Rd.blk (i := 1) rfl rfl)) ?_
    refine Ol.p (lens sl_L_int) ?_
    refine Ol.p lsi ?_
    refine Ol.nil ?_
    refine Cd.cond rfl (fun h => ?_) (fun h => ?_)
    · have hlt : k < f.params.length := by
        simp only [decide_eq_true_eq] at h; omega
      obtain ⟨n, hn⟩ : ∃ n, f.params[k]? = some n := ⟨_, List.getElem?_eq_getElem hlt⟩
      have hnr := hprm n (List.mem_of_getElem? hn)
      obtain ⟨m, rfl⟩ : ∃ m : Nat, n = (m : Int) := ⟨n.toNat, by omega⟩
      refine Cd.skip ?_
      refine Cd.seq ?_
      refine Cd.block ?_
      refine Cd.region ?_
      refine Ol.p (fdl fd_api_Func_0) ?_
      refine Ol.p (ld one_L_int (Rd.blk (i := 1) rfl rfl)) ?_
      refine Ol.p mvi ?_
      refine Ol.p (ixn1 (ix := k) sl_L_int (Som.slc hf.params (by omega))) ?_
      refine Ol.p (ld one_int (Rd.slc hf.params (ints_at hn))) ?_
      refine Ol.p (ixl1 (ix := m) ar_A201_bool) ?_
      refine Ol.s (sto (v := .bool true) (i := 0) (k := m) (.inr sz_bool) rfl rfl rfl (by rw [encV_size]; omega) rfl) ?_
      refine Ol.nil ?_
      refine Cd.region ?_
      refine Ol.p mvi ?_
      refine Ol.p addi ?_
      refine Ol.p asi ?_
      refine Ol.nil ?_
      refine ⟨f.params.length - (k + 1), by omega, k + 1, rfl, by omega, ⟨rfl, rfl, rfl, rfl, trivial⟩, ?_⟩
      rw [take_snoc_ hn, putsV_snoc, ← encV_set]
      rfl
    have hke : k = f.params.length := by
      simp only [decide_eq_false_iff_not] at h; omega
    refine Cd.exit (id := 0) ⟨putsV noS f.params true, fun v hv p hp e => ?_, ⟨rfl, rfl, rfl, trivial⟩, by rw [hke, List.take_of_length_le (Nat.le_refl _)]⟩
    have : putsV noS f.params true v = true := putsV_iff.2 (.inr ⟨p, hp, e⟩)
    rw [this] at hv; cases hv
  rintro σ' _ ⟨S0, hS0, hs', rfl⟩
  refine Cd.has hs' ?_
  clear hs'
  refine Cd.seq ?_
  refine Cd.region ?_
  refine Ol.p asi ?_
  refine Ol.nil ?_
  -- the way
  refine Cd.mid (fun σ' L' => True) ?_ ?_
  · refine Cd.seq ?_
    refine Cd.region ?_
    refine Ol.p asi ?_
    refine Ol.nil ?_
    refine Cd.block ?_
    refine Cd.loop (fun m σ L => ∃ (k b : Nat) (S : VS), m = way.length - k ∧ k ≤ way.length ∧ b < f.blocks.length ∧ (∀ v, S v = false → Bare f v b) ∧ Has σ [(1, .slice Aw way.length cw), (2, .pointer (some ⟨g2, 0, none⟩)), (5, .pointer (some ⟨g5, 0, none⟩)), (7, .int .i64 b), (8, .int .i64 k)] ∧
      [blk g5 (.cells (encV S) 47), blk g2 (.cells f.cells.toArray 43)] = L) (n := way.length) ⟨0, 0, S0, rfl, Nat.zero_le _, h0, fun v hv => .zero (hS0 v hv), ⟨rfl, rfl, rfl, rfl, rfl, trivial⟩, rfl⟩ ?_
    rintro _ σ L ⟨k, b, S, rfl, hk, hbn, hbare, hs, rfl⟩
    refine Cd.has hs ?_
    clear hs
    have hkw : decide ((k : Int) ≤ (way.length : Int)) = true := by rw [decide_eq_true_iff]; omega
    obtain ⟨x, hx⟩ : ∃ x, f.blocks[b]? = some x := ⟨_, List.getElem?_eq_getElem hbn⟩
    have hxm := List.mem_of_getElem? hx
    have hxl := h64 x hxm
    have hsafe := fun v he => valuedF_iff.1 hval b x v hx he
    have htoL := toL_len x.term
    have hnl := needsL_len x.term
    refine Cd.seq ?_
    refine Cd.seq ?_
    refine Cd.region ?_
    refine Ol.p mvi ?_
    refine Ol.p mvs ?_
    refine Ol.p (lens sl_L_int) ?_
    refine Ol.p lei ?_
    refine Ol.nil ?_
    refine Cd.cond rfl (fun h => ?_) (fun h => by rw [hkw] at h; cases h)
    refine Cd.skip ?_
    refine Cd.seq ?_
    refine Cd.block ?_
    refine Cd.seq ?_
    refine Cd.region ?_
    refine Ol.p (fdl fd_api_Func_1) ?_
    refine Ol.p (ld one_L_api_Block (Rd.blk (i := 1) rfl rfl)) ?_
    refine Ol.p mvi ?_
    refine Ol.p (ixn (ix := b) sl_L_api_Block (Som.slc hf.blocks (by omega))) ?_
    refine Ol.p (lds (es := x.cells) ag_api_Block hf.blocks x.len (fun j u hu => blk_cell hx hu)) ?_
    refine Ol.x (alc zr_api_Block) ?_
    rintro _ _ ⟨g9, rfl, rfl⟩
    refine Ol.s (stw (vs := x.cells.toArray) sz_api_Block rfl x.one (i := 0) rfl rfl) ?_
    refine Ol.nil ?_
    refine Cd.mid (fun σ' L' => ∃ S' : VS, (∀ v, S' v = false → Bare f v b ∧ ∀ i ∈ x.ins, (defI i).toNat ≠ v) ∧ Has σ' [(1, .slice Aw way.length cw), (2, .pointer (some ⟨g2, 0, none⟩)), (5, .pointer (some ⟨g5, 0, none⟩)), (7, .int .i64 b), (8, .int .i64 k), (9, .pointer (some ⟨g9, 0, none⟩))] ∧
      [blk g9 (.cells x.cells.toArray 50), blk g5 (.cells (encV S') 47), blk g2 (.cells f.cells.toArray 43)] = L') ?_ ?_
    · refine Cd.seq ?_
      refine Cd.region ?_
      refine Ol.p asi ?_
      refine Ol.nil ?_
      refine Cd.block ?_
      refine Cd.loop (fun m σ L => ∃ (q : Nat) (S' : VS), m = x.ins.length - q ∧ q ≤ x.ins.length ∧ (∀ v, S' v = false → Bare f v b ∧ ∀ j, j < q → ∀ i, x.ins[j]? = some i → (defI i).toNat ≠ v) ∧ Has σ [(1, .slice Aw way.length cw), (2, .pointer (some ⟨g2, 0, none⟩)), (5, .pointer (some ⟨g5, 0, none⟩)), (7, .int .i64 b), (8, .int .i64 k), (9, .pointer (some ⟨g9, 0, none⟩)), (10, .int .i64 q)] ∧
        [blk g9 (.cells x.cells.toArray 50), blk g5 (.cells (encV S') 47), blk g2 (.cells f.cells.toArray 43)] = L) (n := x.ins.length) ⟨0, S, rfl, Nat.zero_le _, fun v hv => ⟨hbare v hv, fun j hj => by omega⟩, ⟨rfl, rfl, rfl, rfl, rfl, rfl, rfl, trivial⟩, rfl⟩ ?_
      rintro _ σ L ⟨q, S', rfl, hq, hbr, hs, rfl⟩
      refine Cd.has hs ?_
      clear hs
      refine Cd.seq ?_
      refine Cd.seq ?_
      refine Cd.region ?_
      refine Ol.p mvi ?_
      refine Ol.p (fdl fd_api_Block_0) ?_
      refine Ol.p (ld one_L_api_Ins (Rd.blk (i := 0) rfl rfl)) ?_
      refine Ol.p (lens sl_L_api_Ins) ?_
      refine Ol.p lsi ?_
      refine Ol.nil ?_
      refine Cd.cond rfl (fun h => ?_) (fun h => ?_)
      · have hql : q < x.ins.length := by
          simp only [decide_eq_true_eq] at h; omega
        obtain ⟨i, hi⟩ : ∃ i, x.ins[q]? = some i := ⟨_, List.getElem?_eq_getElem hql⟩
        have him := List.mem_of_getElem? hi
        have hrl := readsL_len i
        have hal := hfit.alen x hxm i him
        have hdr := defI_range i
        have hia : ∀ {M : List Res} {w' : World}, Hp w w.heap.size M w' → InsAt w' i := fun hh => ⟨(hf.args x hxm i him).now hh, hal, hfit.insr x hxm i him i.callee (by simp)⟩
        obtain ⟨dn, hdn⟩ : ∃ dn : Nat, defI i = (dn : Int) := ⟨(defI i).toNat, by omega⟩
        refine Cd.skip ?_
        refine Cd.seq ?_
        refine Cd.block ?_
        refine Cd.seq ?_
        refine Cd.region ?_
        refine Ol.p (fdl fd_api_Block_0) ?_
        refine Ol.p (ld one_L_api_Ins (Rd.blk (i := 0) rfl rfl)) ?_
        refine Ol.p mvi ?_
        refine Ol.p (ixn (ix := q) sl_L_api_Ins (Som.slc (hf.ins x hxm) (by omega))) ?_
        refine Ol.p (lds (es := i.cells) ag_api_Ins (hf.ins x hxm) i.len (fun j u hu => ins_cell hi hu)) ?_
        refine Ol.x (sp_call en_ir_Reads (fun M w' hh => ir_Reads_ct (hia hh))) ?_
        rintro _ _ ⟨_, rfl, A66, c66, rfl, rfl⟩
        refine Ol.p ass ?_
        refine Ol.nil ?_
        refine Cd.mid (fun σ' L' => Has σ' [(1, .slice Aw way.length cw), (2, .pointer (some ⟨g2, 0, none⟩)), (5, .pointer (some ⟨g5, 0, none⟩)), (7, .int .i64 b), (8, .int .i64 k), (9, .pointer (some ⟨g9, 0, none⟩)), (10, .int .i64 q)] ∧
          [blk g9 (.cells x.cells.toArray 50), blk g5 (.cells (encV S') 47), blk g2 (.cells f.cells.toArray 43)] = L') ?_ ?_
        · refine Cd.seq ?_
          refine Cd.region ?_
          refine Ol.p asi ?_
          refine Ol.nil ?_
          refine Cd.block ?_
          refine Cd.loop (fun m σ L => ∃ j, m = (readsL i).length - j ∧ j ≤ (readsL i).length ∧ Has σ [(1, .slice Aw way.length cw), (2, .pointer (some ⟨g2, 0, none⟩)), (5, .pointer (some ⟨g5, 0, none⟩)), (7, .int .i64 b), (8, .int .i64 k), (9, .pointer (some ⟨g9, 0, none⟩)), (10, .int .i64 q), (11, .slice A66 (readsL i).length c66), (12, .int .i64 j)] ∧
            [row (.slice A66 (readsL i).length c66) 3 1 (readsL i).length (ints (readsL i)), blk g9 (.cells x.cells.toArray 50), blk g5 (.cells (encV S') 47), blk g2 (.cells f.cells.toArray 43)] = L) (n := (readsL i).length) ⟨0, rfl, Nat.zero_le _, ⟨rfl, rfl, rfl, rfl, rfl, rfl, rfl, rfl, rfl, trivial⟩, rfl⟩ ?_
          rintro _ σ L ⟨j, rfl, hj, hs, rfl⟩
          refine Cd.has hs ?_
          clear hs
          refine Cd.seq ?_
          refine Cd.seq ?_
          refine Cd.region ?_
          refine Ol.p mvi ?_
          refine Ol.p mvs ?_
          refine Ol.p (lens sl_L_int) ?_
          refine Ol.p lsi ?_
          refine Ol.nil ?_
          refine Cd.cond rfl (fun h2 => ?_) (fun h2 => ?_)
          · have hjl : j < (readsL i).length := by
              simp only [decide_eq_true_eq] at h2; omega
            obtain ⟨n, hn⟩ : ∃ n, (readsL i)[j]? = some n := ⟨_, List.getElem?_eq_getElem hjl⟩
            have hnm := List.mem_of_getElem? hn
            have hnr := readsL_mem hnm
            obtain ⟨m, rfl⟩ : ∃ m : Nat, n = (m : Int) := ⟨n.toNat, by omega⟩
            have hSm : S' m = true := by
              cases hc : S' m with
              | true => rfl
              | false =>
                obtain ⟨h5, h6⟩ := hbr m hc
                refine absurd h5 ?_
                have := hsafe (m : Int) (exposed_mid hi (fun j' hj' i' hi' e => h6 j' hj' i' hi' (by rw [e]; simp)) hnm)
                simpa using this
            refine Cd.skip ?_
            refine Cd.seq ?_
            refine Cd.block ?_
            refine Cd.seq ?_
            refine Cd.region ?_
            refine Ol.p mvs ?_
            refine Ol.p mvi ?_
            refine Ol.p (ixn1 (ix := j) sl_L_int (Som.row (i := 0) rfl (by omega))) ?_
            refine Ol.p (ld one_int (Rd.row (i := 0) rfl (ints_at hn))) ?_
            refine Ol.p (ixl1 (ix := m) ar_A201_bool) ?_
            refine Ol.p (ld one_bool (Rd.blk (i := 2) rfl (encV_get (i := m) (by omega)))) ?_
            refine Ol.p noti ?_
            refine Ol.nil ?_
            refine Cd.cond rfl (fun h3 => by rw [hSm] at h3; cases h3) (fun h3 => ?_)
            refine Cd.skip ?_
            refine Cd.region ?_
            refine Ol.p mvi ?_
            refine Ol.p addi ?_
            refine Ol.p asi ?_
            refine Ol.nil ?_
            exact ⟨(readsL i).length - (j + 1), by omega, j + 1, rfl, by omega, ⟨rfl, rfl, rfl, rfl, rfl, rfl, rfl, rfl, rfl, trivial⟩, rfl⟩
          refine Cd.keep (.sub (.cons _ (List.Sublist.refl _))) ?_
          exact Cd.exit (id := 6) ⟨⟨rfl, rfl, rfl, rfl, rfl, rfl, rfl, trivial⟩, rfl⟩
        rintro σ' _ ⟨hs', rfl⟩
        refine Cd.has hs' ?_
        clear hs'
        refine Cd.region ?_
        refine Ol.p (fdl fd_api_Block_0) ?_
        refine Ol.p (ld one_L_api_Ins (Rd.blk (i := 0) rfl rfl)) ?_
        refine Ol.p mvi ?_
        refine Ol.p (ixn (ix := q) sl_L_api_Ins (Som.slc (hf.ins x hxm) (by omega))) ?_
        refine Ol.p (lds (es := i.cells) ag_api_Ins (hf.ins x hxm) i.len (fun j u hu => ins_cell hi hu)) ?_
        refine Ol.s (cl (v := .int .i64 (dn : Int)) en_ir_Defines (fun M w' hh => by have := ir_Defines_ct (hia hh); rw [hdn] at this; exact this)) ?_
        refine Ol.p (ixl1 (ix := dn) ar_A201_bool) ?_
        refine Ol.s (sto (v := .bool true) (i := 1) (k := dn) (.inr sz_bool) rfl rfl rfl (by rw [encV_size]; omega) rfl) ?_
        refine Ol.nil ?_
        rw [encV_set]
        refine Cd.region ?_
        refine Ol.p mvi ?_
        refine Ol.p addi ?_
        refine Ol.p asi ?_
        refine Ol.nil ?_
        refine ⟨x.ins.length - (q + 1), by omega, q + 1, putV S' dn true, rfl, by omega, fun v hv => ?_, ⟨rfl, rfl, rfl, rfl, rfl, rfl, rfl, trivial⟩, rfl⟩
        unfold putV at hv
        by_cases e : v = dn
        · rw [if_pos e] at hv; cases hv
        · rw [if_neg e] at hv
          obtain ⟨h5, h6⟩ := hbr v hv
          refine ⟨h5, fun j hj i' hi' => ?_⟩
          by_cases ej : j = q
          · subst ej
            rw [hi] at hi'; cases hi'
            rw [hdn]; simpa using fun e2 => e e2.symm
          · exact h6 j (by omega) i' hi'
      have hqe : q = x.ins.length := by
        simp only [decide_eq_false_iff_not] at h; omega
      refine Cd.exit (id := 4) ⟨S', fun v hv => ⟨(hbr v hv).1, fun i hi => ?_⟩, ⟨rfl, rfl, rfl, rfl, rfl, rfl, trivial⟩, rfl⟩
      obtain ⟨j, hj⟩ := List.mem_iff_getElem?.1 hi
      exact (hbr v hv).2 j (by rw [hqe]; exact (List.getElem?_eq_some_iff.1 hj).1) i hj
    clear hbare
    rintro σ' _ ⟨S', hbr, hs', rfl⟩
    refine Cd.has hs' ?_
    clear hs'
    refine Cd.seq ?_
    refine Cd.region ?_
    refine Ol.p (fdl fd_api_Block_1) ?_
    refine Ol.p (ldp (k := 0 + 1) (vs := x.term.cells.toArray) ag_api_Term (i := 0) rfl rfl (fun j u hu => by rw [Nat.zero_add, Nat.add_comm]; simpa [RBlk.cells] using hu)) ?_
    refine Ol.x (sp_call en_ir_Needs (fun M w' hh => ir_Needs_ct (t := x.term))) ?_
    rintro _ _ ⟨_, rfl, A89, c89, rfl, rfl⟩
    refine Ol.p ass ?_
    refine Ol.nil ?_
    refine Cd.seq ?_
    refine Cd.region ?_
    refine Ol.p (fdl fd_api_Block_1) ?_
    refine Ol.p (ldp (k := 0 + 1) (vs := x.term.cells.toArray) ag_api_Term (i := 1) rfl rfl (fun j u hu => by rw [Nat.zero_add, Nat.add_comm]; simpa [RBlk.cells] using hu)) ?_
    refine Ol.x (sp_call en_ir_To (fun M w' hh => ir_To_ct (t := x.term))) ?_
    rintro _ _ ⟨_, rfl, A92, c92, rfl, rfl⟩
    refine Ol.p ass ?_
    refine Ol.nil ?_
    refine Cd.seq ?_
    refine Cd.mid (fun σ' L' => Has σ' [(1, .slice Aw way.length cw), (2, .pointer (some ⟨g2, 0, none⟩)), (5, .pointer (some ⟨g5, 0, none⟩)), (8, .int .i64 k), (14, .slice A92 (toL x.term).length c92), (103, .bool false)] ∧
      [row (.slice A92 (toL x.term).length c92) 3 1 (toL x.term).length (ints (toL x.term)), blk g5 (.cells (encV S') 47), blk g2 (.cells f.cells.toArray 43)] = L') ?_ ?_
    · cases hn0 : decide ((0 : Int) < ((needsL x.term).length : Int)) with
      | false =>
        refine Cd.region ?_
        refine Ol.p mvs ?_
        refine Ol.p (lens sl_L_int) ?_
        refine Ol.p gti ?_
        refine Ol.p mvb ?_
        refine Ol.gn hn0 ?_
        refine Ol.gn hn0 ?_
        refine Ol.gn hn0 ?_
        refine Ol.gn hn0 ?_
        refine Ol.gn hn0 ?_
        refine Ol.gn hn0 ?_
        refine Ol.p (pkFb hn0) ?_
        refine Ol.keep (.sub (.cons_cons _ (.cons _ (.cons _ (List.Sublist.refl _))))) ?_
        refine Ol.nil ?_
        exact ⟨⟨rfl, rfl, rfl, rfl, rfl, rfl, trivial⟩, rfl⟩
      | true =>
        have hnl0 : 0 < (needsL x.term).length := by
          simp only [decide_eq_true_eq] at hn0; omega
        obtain ⟨n, hn⟩ : ∃ n, (needsL x.term)[0]? = some n := ⟨_, List.getElem?_eq_getElem hnl0⟩
        have hnm := List.mem_of_getElem? hn
        have hnr := needsL_mem hnm
        obtain ⟨m, rfl⟩ : ∃ m : Nat, n = (m : Int) := ⟨n.toNat, by omega⟩
        have hSm : S' m = true := by
          cases hc : S' m with
          | true => rfl
          | false =>
            obtain ⟨h5, h6⟩ := hbr m hc
            refine absurd h5 ?_
            have := hsafe (m : Int) (exposed_end (fun i' hi' e => h6 i' hi' (by rw [e]; simp)) hnm)
            simpa using this
        refine Cd.region ?_
        refine Ol.p mvs ?_
        refine Ol.p (lens sl_L_int) ?_
        refine Ol.p gti ?_
        refine Ol.p mvb ?_
        refine Ol.gp hn0 mvs ?_
        refine Ol.gp hn0 (ixn1 (ix := 0) sl_L_int (Som.row (i := 1) rfl hnl0)) ?_
        refine Ol.gp hn0 (ld one_int (Rd.row (i := 1) rfl (ints_at hn))) ?_
        refine Ol.gp hn0 (ixl1 (ix := m) ar_A201_bool) ?_
        refine Ol.gp hn0 (ld one_bool (Rd.blk (i := 3) rfl (encV_get (i := m) (by omega)))) ?_
        refine Ol.gp hn0 noti ?_
        refine Ol.p (pkTb hn0) ?_
        refine Ol.keep (.sub (.cons_cons _ (.cons _ (.cons _ (List.Sublist.refl _))))) ?_
        refine Ol.nil ?_
        exact ⟨⟨rfl, rfl, rfl, rfl, rfl, by show Value.bool _ = _; rw [hSm]; rfl, trivial⟩, rfl⟩
    rintro σ' _ ⟨hs', rfl⟩
    refine Cd.has hs' ?_
    clear hs'
    refine Cd.cond rfl (fun h => by cases h) (fun h => ?_)
    refine Cd.skip ?_
    refine Cd.seq ?_
    refine Cd.seq ?_
    cases hz : decide (((toL x.term).length : Int) = 0) with
    | true =>
      refine Cd.region ?_
      refine Ol.p mvs ?_
      refine Ol.p (lens sl_L_int) ?_
      refine Ol.p eqi ?_
      refine Ol.p mvb ?_
      refine Ol.gn hz ?_
      refine Ol.gn hz ?_
      refine Ol.gn hz ?_
      refine Ol.gn hz ?_
      refine Ol.p (pkTb hz) ?_
      refine Ol.nil ?_
      refine Cd.cond rfl (fun h => ?_) (fun h => by cases h)
      refine Cd.seq ?_
      refine Cd.region ?_
      refine Ol.p asb ?_
      refine Ol.nil ?_
      exact Cd.ret ⟨.bool _, ret1 rfl rfl, [], .nil, rfl, rfl⟩
    | false =>
      refine Cd.region ?_
      refine Ol.p mvs ?_
      refine Ol.p (lens sl_L_int) ?_
      refine Ol.p eqi ?_
      refine Ol.p mvb ?_
      refine Ol.gp hz mvi ?_
      refine Ol.gp hz mvs ?_
      refine Ol.gp hz (lens sl_L_int) ?_
      refine Ol.gp hz eqi ?_
      refine Ol.p (pkFb hz) ?_
      refine Ol.nil ?_
      refine Cd.cond rfl (fun h => ?_) (fun h => ?_)
      · refine Cd.seq ?_
        refine Cd.region ?_
        refine Ol.p asb ?_
        refine Ol.nil ?_
        exact Cd.ret ⟨.bool _, ret1 rfl rfl, [], .nil, rfl, rfl⟩
      have hklt : k < way.length := by
        simp only [decide_eq_false_iff_not] at h; omega
      have hz0 : 0 < (toL x.term).length := by
        simp only [decide_eq_false_iff_not] at hz; omega
      obtain ⟨wv, hwv⟩ : ∃ wv, way[k]? = some wv := ⟨_, List.getElem?_eq_getElem hklt⟩
      obtain ⟨n, hn⟩ : ∃ n, (toL x.term)[pickF wv (toL x.term).length]? = some n := ⟨_, List.getElem?_eq_getElem (pickF_lt hz0)⟩
      have hnm := List.mem_of_getElem? hn
      have hnr := okEs_at hok (a := b) (n := n) (by rw [toAt_some (show f.terms[b]? = some x.term by simp [RFun.terms, hx])]; exact hnm)
      have htl : f.terms.length = f.blocks.length := by simp [RFun.terms]
      obtain ⟨nx, rfl⟩ : ∃ nx : Nat, n = (nx : Int) := ⟨n.toNat, by omega⟩
      have hg2 : decide ((nx : Int) < 1) = false := by rw [decide_eq_false_iff_not]; omega
      refine Cd.skip ?_
      refine Cd.seq ?_
      refine Cd.region ?_
      refine Ol.p mvs ?_
      refine Ol.p mvs ?_
      refine Ol.p mvi ?_
      refine Ol.p (ixn1 (ix := k) sl_L_int (Som.slc hw (by omega))) ?_
      refine Ol.p (ld one_int (Rd.slc hw (ints_at hwv))) ?_
      refine Ol.p mvs ?_
      refine Ol.p (lens sl_L_int) ?_
      refine Ol.s (cl en_kit_Pick (fun M w' hh => kit_Pick_ct (x := wv) (n := (toL x.term).length) hz0 (by omega))) ?_
      refine Ol.p (ixn1 (ix := pickF wv (toL x.term).length) sl_L_int (Som.row (i := 0) rfl hz0) (h := pickF_lt hz0)) ?_
      refine Ol.p (ld one_int (Rd.row (i := 0) rfl (ints_at hn))) ?_
      refine Ol.p asi ?_
      refine Ol.keep (.sub (.cons _ (List.Sublist.refl _))) ?_
      refine Ol.nil ?_
      refine Cd.seq ?_
      refine Cd.region ?_
      refine Ol.p mvi ?_
      refine Ol.p lsi ?_
      refine Ol.p mvb ?_
      refine Ol.gp hg2 mvi ?_
      refine Ol.gp hg2 (fdl fd_api_Func_1) ?_
      refine Ol.gp hg2 (ld one_L_api_Block (Rd.blk (i := 1) rfl rfl)) ?_
      refine Ol.gp hg2 (lens sl_L_api_Block) ?_
      refine Ol.gp hg2 gei ?_
      refine Ol.p (pkFb hg2) ?_
      refine Ol.nil ?_
      refine Cd.cond rfl (fun h => by simp only [decide_eq_true_eq] at h; omega) (fun h => ?_)
      refine Cd.skip ?_
      refine Cd.region ?_
      refine Ol.p mvi ?_
      refine Ol.p addi ?_
      refine Ol.p asi ?_
      refine Ol.nil ?_
      exact ⟨way.length - (k + 1), by omega, k + 1, nx, S', rfl, by omega, by omega, fun v hv => .step (hbr v hv).1 hx (hbr v hv).2 hnm, ⟨rfl, rfl, rfl, rfl, rfl, trivial⟩, rfl⟩
  rintro σ' L' _
  refine Cd.seq ?_
  refine Cd.region ?_
  refine Ol.p asb ?_
  refine Ol.nil ?_
  exact Cd.ret ⟨.bool _, ret1 rfl rfl, [], .nil, rfl, rfl⟩
end
end Go.Proofs.Ytcojedoejpcolaa

/- The law 08: runs with less fuel, with more answers: plain laws. Calls compared, walked. -/
namespace Go.Proofs.Ytcojedoejpcolaa
set_option linter.unusedVariables false
open Go Go.RowKit
set_option maxRecDepth 100000

theorem Runs.tick {g : RFun} {s : RSt} {n : Nat} (h : Runs g s n) (he : s.e = 0) : (stepR g s).steps = s.steps + 1 ∧ ∃ c, (stepR g s).calls = s.calls ++ c := by
  obtain ⟨b, hb, hi⟩ := h.stand he
  have hS : stepR g s = nxS (stepB s b).1 (stepB s b).2 := by unfold stepR; rw [hb]
  obtain ⟨_, k2, _, k4⟩ := stepB_keeps s b
  have e1 : (nxS (stepB s b).1 (stepB s b).2).steps = (stepB s b).1.steps := by cases (stepB s b).2 <;> rfl
  have e2 : (nxS (stepB s b).1 (stepB s b).2).calls = (stepB s b).1.calls := by cases (stepB s b).2 <;> rfl
  rw [hS, e1, e2]
  refine ⟨k2, ?_⟩
  rcases k4 with k4 | ⟨i, _, k4⟩
  · exact ⟨[], by rw [k4]; simp⟩
  · exact ⟨_, k4⟩
theorem goS_add (g : RFun) : ∀ (k m : Nat) (s : RSt), goS g s (k + m) = goS g (goS g s k) m
  | 0, m, s => by rw [Nat.zero_add]; rfl
  | k + 1, m, s => by
    rw [Nat.add_right_comm]
    show (if s.e = 0 then goS g (stepR g s) (k + m) else s) = goS g (if s.e = 0 then goS g (stepR g s) k else s) m
    by_cases he : s.e = 0
    · rw [if_pos he, if_pos he, goS_add g k m]
    · rw [if_neg he, if_neg he, goS_end he]
/-- What a run comes to: its steps, its calls. -/
theorem Runs.told {g : RFun} (hF : Fine g) : ∀ (m : Nat) {s : RSt} {n : Nat}, Runs g s n → s.steps ≤ (goS g s m).steps ∧ (goS g s m).steps ≤ s.steps + m ∧ ((goS g s m).e = 0 → (goS g s m).steps = s.steps + m) ∧ (∃ c, (goS g s m).calls = s.calls ++ c) ∧ goS g s ((goS g s m).steps - s.steps) = goS g s m
  | 0, s, n, h => ⟨Nat.le_refl _, Nat.le_refl _, fun _ => rfl, ⟨[], by simp [goS]⟩, by simp [goS]⟩
  | m + 1, s, n, h => by
    by_cases he : s.e = 0
    · obtain ⟨t1, c1, t2⟩ := h.tick he
      obtain ⟨h1, h2, h3, ⟨c2, h4⟩, h5⟩ := Runs.told hF m (h.step hF he)
      have e : goS g s (m + 1) = goS g (stepR g s) m := if_pos he
      rw [e]
      refine ⟨by omega, by omega, fun h0 => by have := h3 h0; omega, ⟨c1 ++ c2, by rw [h4, t2, List.append_assoc]⟩, ?_⟩
      have e2 : (goS g (stepR g s) m).steps - s.steps = ((goS g (stepR g s) m).steps - (stepR g s).steps) + 1 := by omega
      rw [e2]
      show (if s.e = 0 then _ else _) = _
      rw [if_pos he, h5]
    · have e : goS g s (m + 1) = s := if_neg he
      rw [e]
      exact ⟨Nat.le_refl _, by omega, fun h0 => absurd h0 he, ⟨[], by simp⟩, by rw [Nat.sub_self]; rfl⟩
def moreS (s : RSt) (E : List Int) : RSt := { s with ans := s.ans ++ E }
theorem insF_more {s : RSt} {i : RIns} {E : List Int} {N : Nat} (hN : s.calls.length + s.ans.length = N) (hc : (insF s i).1.calls.length ≤ N) : insF (moreS s E) i = (moreS (insF s i).1 E, (insF s i).2) ∧ (insF s i).1.calls.length + (insF s i).1.ans.length = N := by
  have hv : insV (moreS s E) i = (moreS (insV s i).1 E, (insV s i).2) ∧ (insV s i).1.calls.length + (insV s i).1.ans.length = N := by
    have hcv : (insV s i).1.calls.length ≤ N := by
      have e : (insF s i).1.calls = (insV s i).1.calls := by
        unfold insF
        split
        · show (insS (insV s i).1 i (insV s i).2.1).calls = _
          unfold insS; split <;> rfl
        · rfl
      rw [← e]; exact hc
    unfold insV at hcv ⊢
    by_cases h1 : i.op = 1
    · simp only [if_pos h1]; first | exact ⟨rfl, hN⟩ | exact ⟨trivial, hN⟩
    simp only [if_neg h1] at hcv ⊢
    by_cases h2 : i.op = 14
    · simp only [if_pos h2]; first | exact ⟨rfl, hN⟩ | exact ⟨trivial, hN⟩
    simp only [if_neg h2] at hcv ⊢
    by_cases h3 : i.op = 13
    · simp only [if_pos h3] at hcv ⊢
      unfold callF at hcv ⊢
      cases hs : s.ans with
      | nil =>
        exfalso
        rw [hs] at hcv hN
        simp [callS] at hcv
        simp at hN
        omega
      | cons n r =>
        have e : (moreS s E).ans = n :: (r ++ E) := by unfold moreS; rw [hs]; rfl
        rw [hs] at hN
        rw [e]
        refine ⟨rfl, ?_⟩
        simp [callS]
        simp at hN
        omega
    simp only [if_neg h3] at hcv ⊢
    by_cases h4 : i.op = 11 ∨ i.op = 12
    · simp only [if_pos h4] at hcv ⊢
      have e : memAt (moreS s E) (wI ((moreS s E).get i.a + i.imm)) = memAt s (wI (s.get i.a + i.imm)) := rfl
      unfold memF
      rw [e]
      cases hm : memAt s (wI (s.get i.a + i.imm)) with
      | none => first | exact ⟨rfl, hN⟩ | exact ⟨trivial, hN⟩
      | some n =>
        by_cases h5 : i.op = 12
        · simp only [if_pos h5]; first | exact ⟨rfl, hN⟩ | exact ⟨trivial, hN⟩
        · simp only [if_neg h5]; first | exact ⟨rfl, hN⟩ | exact ⟨trivial, hN⟩
    · simp only [if_neg h4]; first | exact ⟨rfl, hN⟩ | exact ⟨trivial, hN⟩
  obtain ⟨hv1, hv2⟩ := hv
  unfold insF
  rw [hv1]
  by_cases h : (insV s i).2.2 = true
  · simp only [if_pos h]
    refine ⟨?_, ?_⟩
    · unfold insS
      by_cases hd : 0 < i.dst
      · simp only [if_pos hd]; rfl
      · simp only [if_neg hd]; rfl
    · unfold insS
      by_cases hd : 0 < i.dst
      · simp only [if_pos hd]; exact hv2
      · simp only [if_neg hd]; exact hv2
  · simp only [if_neg h]
    first | exact ⟨rfl, hv2⟩ | exact ⟨trivial, hv2⟩
theorem stepR_more {g : RFun} {s : RSt} {E : List Int} {N : Nat} (hN : s.calls.length + s.ans.length = N) (hc : (stepR g s).calls.length ≤ N) : stepR g (moreS s E) = moreS (stepR g s) E ∧ (stepR g s).calls.length + (stepR g s).ans.length = N := by
  unfold stepR at hc ⊢
  show (match g.blocks[s.b]? with | some b => nxS (stepB (moreS s E) b).1 (stepB (moreS s E) b).2 | none => moreS s E) = _ ∧ _
  cases hb : g.blocks[s.b]? with
  | none => first | exact ⟨rfl, hN⟩ | exact ⟨trivial, hN⟩
  | some b =>
    rw [hb] at hc
    have hc' : (stepB s b).1.calls.length ≤ N := by
      have e2 : (nxS (stepB s b).1 (stepB s b).2).calls = (stepB s b).1.calls := by cases (stepB s b).2 <;> rfl
      rw [← e2]; exact hc
    have key : stepB (moreS s E) b = (moreS (stepB s b).1 E, (stepB s b).2) ∧ (stepB s b).1.calls.length + (stepB s b).1.ans.length = N := by
      unfold stepB at hc' ⊢
      show (match b.ins[s.i]? with | some i => insF (tick (moreS s E)) i | none => (tick (moreS s E), termF (tick (moreS s E)) b.term)) = _ ∧ _
      cases hi : b.ins[s.i]? with
      | none => first | exact ⟨rfl, hN⟩ | exact ⟨trivial, hN⟩
      | some i =>
        rw [hi] at hc'
        exact insF_more (s := tick s) hN hc'
    show nxS (stepB (moreS s E) b).1 (stepB (moreS s E) b).2 = moreS (nxS (stepB s b).1 (stepB s b).2) E ∧ (nxS (stepB s b).1 (stepB s b).2).calls.length + (nxS (stepB s b).1 (stepB s b).2).ans.length = N
    rw [key.1]
    refine ⟨by cases (stepB s b).2 <;> rfl, ?_⟩
    have e3 : (nxS (stepB s b).1 (stepB s b).2).calls = (stepB s b).1.calls ∧ (nxS (stepB s b).1 (stepB s b).2).ans = (stepB s b).1.ans := by cases (stepB s b).2 <;> exact ⟨rfl, rfl⟩
    rw [e3.1, e3.2]
    exact key.2
/-- Answers that a run does not come to change nothing. -/
theorem goS_more {g : RFun} (hF : Fine g) {E : List Int} {N : Nat} : ∀ (m : Nat) {s : RSt} {n : Nat}, Runs g s n → s.calls.length + s.ans.length = N → (goS g s m).calls.length ≤ N → goS g (moreS s E) m = moreS (goS g s m) E
  | 0, s, n, _, _, _ => rfl
  | m + 1, s, n, h, hN, hc => by
    show (if s.e = 0 then goS g (stepR g (moreS s E)) m else moreS s E) = moreS (if s.e = 0 then goS g (stepR g s) m else s) E
    by_cases he : s.e = 0
    · have e : goS g s (m + 1) = goS g (stepR g s) m := if_pos he
      rw [e] at hc
      have hr := h.step hF he
      obtain ⟨c, h4⟩ := (Runs.told hF m hr).2.2.2.1
      obtain ⟨k1, k2⟩ := stepR_more (g := g) (E := E) hN (by rw [h4] at hc; simp at hc; omega)
      rw [if_pos he, if_pos he, k1]
      exact goS_more hF m hr k2 hc
    · rw [if_neg he, if_neg he]
section
structure RecsIn (w : World) (B : Nat) (A : Option Addr) (l : List CRec) : Prop where
  row : Reads w B 2 A l.length (l.flatMap CRec.cells)
  args : ∀ r ∈ l, Reads w B 1 r.A r.args.length (ints r.args)
  len : l.length < 2 ^ 60
  alen : ∀ r ∈ l, r.args.length < 2 ^ 60
theorem flat_take {l : List CRec} {n : Nat} (h : n ≤ l.length) : (l.flatMap CRec.cells).take (n * 2) = (l.take n).flatMap CRec.cells := by
  conv => lhs; rw [← List.take_append_drop n l, List.flatMap_append]
  have hl : ((l.take n).flatMap CRec.cells).length = n * 2 := by
    have : ∀ l : List CRec, (l.flatMap CRec.cells).length = l.length * 2 := fun l => by
      induction l with
      | nil => rfl
      | cons a l ih => rw [List.flatMap_cons, List.length_append, ih, CRec.len, List.length_cons]; omega
    rw [this, List.length_take, Nat.min_eq_left h]
  rw [List.take_append_of_le_length (by omega), List.take_of_length_le (by omega)]
theorem RecsIn.take {w : World} {B : Nat} {A : Option Addr} {l : List CRec} (h : RecsIn w B A l) {n : Nat} (hn : n ≤ l.length) : RecsIn w B A (l.take n) := by
  have hln : (l.take n).length = n := by rw [List.length_take, Nat.min_eq_left hn]
  refine ⟨?_, fun r hr => h.args r (List.mem_of_mem_take hr), by have := h.len; omega, fun r hr => h.alen r (List.mem_of_mem_take hr)⟩
  rw [hln, ← flat_take hn]
  exact h.row.pre hn
theorem two_ne {a b : List CRec} {k : Nat} {x y : CRec} (ha : a[k]? = some x) (hb : b[k]? = some y) (h : x.two ≠ y.two) : a.map CRec.two ≠ b.map CRec.two := fun e => by
  have := congrArg (fun l : List (Int × List Int) => l[k]?) e
  simp only [List.getElem?_map, ha, hb, Option.map_some] at this
  exact h (Option.some.inj this)
set_option maxHeartbeats 2000000 in
theorem law08_sameCalls_ct {w : World} {A B : Option Addr} {c d : Nat} {a b : List CRec} (ha : RecsIn w w.heap.size A a) (hb : RecsIn w w.heap.size B b) :
    Ct Try.prog 47 #[.slice A a.length c, .slice B b.length d] w (Is (.bool (decide (a.map CRec.two = b.map CRec.two)))) := by
  have hal := ha.len
  have hbl := hb.len
  refine Ct.mk Try.func47 rfl rfl ?_
  refine Cd.seq ?_
  refine Cd.region ?_
  refine Ol.p asb ?_
  refine Ol.nil ?_
  refine Cd.seq ?_
  refine Cd.seq ?_
  refine Cd.region ?_
  refine Ol.p mvs ?_
  refine Ol.p (lens sl_L_api_Call) ?_
  refine Ol.p mvs ?_
  refine Ol.p (lens sl_L_api_Call) ?_
  refine Ol.p nei ?_
  refine Ol.nil ?_
  refine Cd.cond rfl (fun h => ?_) (fun h => ?_)   -- $10
  · have hne : a.map CRec.two ≠ b.map CRec.two := fun e => by
      have := congrArg List.length e
      simp at this
      rw [this] at h
      simp at h
    refine Cd.seq ?_
    refine Cd.region ?_
    refine Ol.p asb ?_
    refine Ol.nil ?_
    exact Cd.ret ⟨.bool false, ret1 rfl rfl, [], .nil, by rw [decide_eq_false hne], rfl⟩
  have hlen : a.length = b.length := by
    have : (a.length : Int) = (b.length : Int) := by simpa using h
    omega
  refine Cd.skip ?_
  refine Cd.seq ?_
  refine Cd.seq ?_
  refine Cd.region ?_
  refine Ol.p asi ?_
  refine Ol.nil ?_
  refine Cd.block ?_   -- 0
  refine Cd.loop (fun m σ L => ∃ k, m = a.length - k ∧ k ≤ a.length ∧ (a.take k).map CRec.two = (b.take k).map CRec.two ∧ Has σ [(0, .slice A a.length c), (1, .slice B b.length d), (5, .int .i64 k)] ∧ [] = L) (n := a.length) ⟨0, rfl, Nat.zero_le _, rfl, ⟨rfl, rfl, rfl, trivial⟩, rfl⟩ ?_
  rintro _ σ L ⟨k, rfl, hk, hsame, hs, rfl⟩
  refine Cd.has hs ?_
  refine Cd.seq ?_
  refine Cd.seq ?_
  refine Cd.region ?_
  refine Ol.p mvi ?_
  refine Ol.p mvs ?_
  refine Ol.p (lens sl_L_api_Call) ?_
  refine Ol.p lsi ?_
  refine Ol.nil ?_
  refine Cd.cond rfl (fun h => ?_) (fun h => ?_)   -- $14
  · have hlt : k < a.length := by
      simp only [decide_eq_true_eq] at h; omega
    obtain ⟨x, hx⟩ : ∃ x, a[k]? = some x := ⟨_, List.getElem?_eq_getElem hlt⟩
    obtain ⟨y, hy⟩ : ∃ y, b[k]? = some y := ⟨_, List.getElem?_eq_getElem (by omega)⟩
    have hxm := List.mem_of_getElem? hx
    have hym := List.mem_of_getElem? hy
    have hxl := ha.alen x hxm
    have hyl := hb.alen y hym
    refine Cd.skip ?_
    refine Cd.seq ?_
    refine Cd.block ?_   -- 1
    refine Cd.mid (fun σ' L' => Has σ' [(0, .slice A a.length c), (1, .slice B b.length d), (5, .int .i64 k), (41, .bool (!decide (x.two = y.two)))] ∧ [] = L') ?_ ?_
    · cases h11 : !decide (x.callee = y.callee) with
      | true =>
        have hne : ¬ x.two = y.two := fun e => by
          have : x.callee = y.callee := congrArg Prod.fst e
          simp [this] at h11
        refine Cd.draw mixed 25 (fun _ => none) (fun _ => []) (by kernel_rfl) (fun _ _ h => by cases h) (fun u hu => ?_)
        refine Wk.p mvs ?_
        refine Wk.p mvi ?_
        refine Wk.p (ixn (ix := k) sl_L_api_Call (Som.slc ha.row (by omega))) ?_
        refine Wk.p (fdp fd_api_Call_0) ?_
        refine Wk.p (ld (v := .int .i64 x.callee) one_int (Rd.slc ha.row (rec_cell (j := 0) hx rfl))) ?_
        refine Wk.p mvs ?_
        refine Wk.p mvi ?_
        refine Wk.p (ixn (ix := k) sl_L_api_Call (Som.slc hb.row (by omega))) ?_
        refine Wk.p (fdp fd_api_Call_0) ?_
        refine Wk.p (ld (v := .int .i64 y.callee) one_int (Rd.slc hb.row (rec_cell (j := 0) hy rfl))) ?_
        refine Wk.p nei ?_
        refine Wk.p mvb ?_
        refine Wk.gn h11 ?_
        refine Wk.gn h11 ?_
        refine Wk.gn h11 ?_
        refine Wk.gn h11 ?_
        refine Wk.gn h11 ?_
        refine Wk.gn h11 ?_
        refine Wk.gn h11 ?_
        refine Wk.gn h11 ?_
        refine Wk.gn h11 ?_
        refine Wk.gn h11 ?_
        refine Wk.gn h11 ?_
        refine Wk.gn h11 ?_
        refine Wk.p (pkTb h11) ?_
        refine Wk.nil ?_
        refine Ol.nil ?_
        exact ⟨⟨rfl, rfl, rfl, congrArg Value.bool (by simp [hne]), trivial⟩, rfl⟩
      | false =>
        have hce : x.callee = y.callee := by simpa using h11
        refine Cd.draw mixed 25 (exIs (fun opNo => match opNo with | 22 => some (.bool (decide (x.args = y.args))) | _ => none)) (fun _ => []) (by kernel_rfl) exIs_in (fun u hu => ?_)
        refine Wk.p mvs ?_
        refine Wk.p mvi ?_
        refine Wk.p (ixn (ix := k) sl_L_api_Call (Som.slc ha.row (by omega))) ?_
        refine Wk.p (fdp fd_api_Call_0) ?_
        refine Wk.p (ld (v := .int .i64 x.callee) one_int (Rd.slc ha.row (rec_cell (j := 0) hx rfl))) ?_
        refine Wk.p mvs ?_
        refine Wk.p mvi ?_
        refine Wk.p (ixn (ix := k) sl_L_api_Call (Som.slc hb.row (by omega))) ?_
        refine Wk.p (fdp fd_api_Call_0) ?_
        refine Wk.p (ld (v := .int .i64 y.callee) one_int (Rd.slc hb.row (rec_cell (j := 0) hy rfl))) ?_
        refine Wk.p nei ?_
        refine Wk.p mvb ?_
        refine Wk.gp h11 mvs ?_
        refine Wk.gp h11 mvi ?_
        refine Wk.gp h11 (ixn (ix := k) sl_L_api_Call (Som.slc ha.row (by omega))) ?_
        refine Wk.gp h11 (fdp fd_api_Call_1) ?_
        refine Wk.gp h11 (ld (v := .slice x.A x.args.length x.c) one_L_int (Rd.slc ha.row (rec_cell (j := 1) hx rfl))) ?_
        refine Wk.gp h11 mvs ?_
        refine Wk.gp h11 mvi ?_
        refine Wk.gp h11 (ixn (ix := k) sl_L_api_Call (Som.slc hb.row (by omega))) ?_
        refine Wk.gp h11 (fdp fd_api_Call_1) ?_
        refine Wk.gp h11 (ld (v := .slice y.A y.args.length y.c) one_L_int (Rd.slc hb.row (rec_cell (j := 1) hy rfl))) ?_
        refine Wk.gdk hu h11 (sp_call en_kit_SameInts (fun M w' hh => kit_SameInts_ct ((ha.args x hxm).now hh) ((hb.args y hym).now hh) (by omega) (by omega))) ?_
        refine Wk.gp h11 noti ?_
        refine Wk.p (pkFb h11) ?_
        refine Wk.nil ?_
        rw [needs_exIs hu rfl]
        refine Ol.nil ?_
        refine ⟨⟨rfl, rfl, rfl, congrArg Value.bool ?_, trivial⟩, rfl⟩
        have : x.two = y.two ↔ x.args = y.args := by simp [CRec.two, hce]
        rw [decide_eq_decide.2 this]
    rintro σ' _ ⟨hs', rfl⟩
    refine Cd.has hs' ?_
    refine Cd.cond rfl (fun h => ?_) (fun h => ?_)   -- $41
    · have hne : x.two ≠ y.two := by simpa using h
      refine Cd.seq ?_
      refine Cd.region ?_
      refine Ol.p asb ?_
      refine Ol.nil ?_
      exact Cd.ret ⟨.bool false, ret1 rfl rfl, [], .nil, by rw [decide_eq_false (two_ne hx hy hne)], rfl⟩
    have heq : x.two = y.two := by simpa using h
    refine Cd.skip ?_
    refine Cd.region ?_
    refine Ol.p mvi ?_
    refine Ol.p addi ?_
    refine Ol.p asi ?_
    refine Ol.nil ?_
    refine ⟨a.length - (k + 1), by omega, k + 1, rfl, by omega, ?_, ⟨rfl, rfl, rfl, trivial⟩, rfl⟩
    rw [take_snoc_ hx, take_snoc_ hy, List.map_append, List.map_append, hsame, List.map_singleton, List.map_singleton, heq]
  have hke : k = a.length := by
    simp only [decide_eq_false_iff_not] at h; omega
  have heq : a.map CRec.two = b.map CRec.two := by
    rw [hke, List.take_of_length_le (Nat.le_refl _), hlen, List.take_of_length_le (Nat.le_refl _)] at hsame
    exact hsame
  refine Cd.exit (id := 0) ?_
  refine Cd.seq ?_
  refine Cd.region ?_
  refine Ol.p asb ?_
  refine Ol.nil ?_
  exact Cd.ret ⟨.bool true, ret1 rfl rfl, [], .nil, by rw [decide_eq_true heq], rfl⟩
end
end Go.Proofs.Ytcojedoejpcolaa

/- The package run: each variable that is read has a value (plain law); At, Var, the law's goes, walked. -/
namespace Go.Proofs.Ytcojedoejpcolaa
set_option linter.unusedVariables false
open Go Go.RowKit
set_option maxRecDepth 100000

theorem lkc {P : Program} {w0 : World} {B : Nat} {σ : Env} {L : List Res} {d : Option Nat} {ty T : TypeId} {pos : String} {af : Array Edge} {gd : Option (Nat × Bool)} {x y : Operand} {i g : Nat} {es : Array MapEntry} {cl : Nat} {n : Int} {zv : Value} (hT : MpT P T zv) (hi : L[i]? = some (blk g (.map es cl))) (ha : AllI es.toList) (hx : ev σ x = .map (some g) := by exact rfl) (hy : ev σ y = .int .i64 n := by exact rfl) :
    Sd P w0 B ⟨d, .lookup T x y true, ty, pos, af, gd⟩ σ L (.tuple #[(mget es.toList n).getD zv, .bool (mget es.toList n).isSome]) := sp_read fun M w hh => by
  obtain ⟨k, e, h1, h2, h3⟩ := hT
  have hg : w.heap[g]? = some (.map es cl) := hh.at_ hi
  obtain ⟨r, hr, hc⟩ := findNow_int n es.toList 0 ha
  have hf := run_findKey_int (P := P) h2 hr w
  have hck := run_checkKey_int (P := P) (b := es.isEmpty) (n := n) h2 w
  simp only [execOp, hx, hy, Instr.lookup, Sem.run_bind, run_underlying h1, Result.andThen_ok, run_getObj hg, Sem.run_pure, hck, hf]
  rcases hc with ⟨rfl, hn⟩ | ⟨j, e', rfl, _, _, h3', _⟩
  · simp [run_zero h3, mget, hn]
  · simp [mget, h3']
/-- What has no value yet is bare here. -/
def Unset (g : RFun) (s : RSt) : Prop := ∀ v : Int, 1 ≤ v → s.vars v = none → Bare g v.toNat s.b ∧ ∀ x, g.blocks[s.b]? = some x → ∀ k i, k < s.i → x.ins[k]? = some i → defI i ≠ v
theorem begV_none : ∀ {l : List (Int × Int)} {f : Int → Option Int} {v : Int}, l.foldl (fun f p => updI f p.1 p.2) f v = none → ∀ p ∈ l, p.1 ≠ v
  | [], _, _, _, p, hp => by cases hp
  | q :: l, f, v, h, p, hp => by
    rcases List.mem_cons.1 hp with rfl | hp
    · intro e
      have key : ∀ {l : List (Int × Int)} {f : Int → Option Int} {v : Int}, f v ≠ none → l.foldl (fun f p => updI f p.1 p.2) f v ≠ none := by
        intro l
        induction l with
        | nil => exact fun h => h
        | cons a l ih =>
          intro f v h
          refine ih ?_
          show updI f a.1 a.2 v ≠ none
          unfold updI
          by_cases hva : v = a.1
          · rw [if_pos hva]; exact fun h => by cases h
          · rw [if_neg hva]; exact h
      exact key (l := l) (f := updI f p.1 p.2) (v := v) (by unfold updI; rw [if_pos e.symm]; exact fun h => by cases h) h
    · exact begV_none (l := l) h p hp
theorem Unset.beg {f : RFun} {args mem ans : List Int} (h : okB f args mem) : Unset f (begS f args mem ans) := fun v hv hn => by
  refine ⟨.zero fun p hp => ?_, fun x _ k i hk _ => absurd hk (Nat.not_lt_zero _)⟩
  have hw := whole_params (rightF_iff.1 h.1).2.1 p hp
  obtain ⟨k, hk⟩ := List.mem_iff_getElem?.1 hp
  have hlt := (List.getElem?_eq_some_iff.1 hk).1
  obtain ⟨a, ha⟩ : ∃ a, args[k]? = some a := ⟨_, List.getElem?_eq_getElem (by rw [h.2.1]; exact hlt)⟩
  have hz : (f.params.zip args)[k]? = some (p, a) := List.getElem?_zip_eq_some.2 ⟨hk, ha⟩
  have := begV_none hn (p, a) (List.mem_of_getElem? hz)
  have h2 : p ≠ v := this
  omega
theorem insV_vars (s : RSt) (i : RIns) : (insV s i).1.vars = s.vars := by
  unfold insV
  split
  · rfl
  split
  · rfl
  split
  · unfold callF; split <;> rfl
  split
  · unfold memF
    split
    · rfl
    split <;> rfl
  rfl
theorem insF_vars {s : RSt} {i : RIns} {v : Int} (h : (insF s i).1.vars v ≠ s.vars v) : 0 < i.dst ∧ v = i.dst := by
  unfold insF at h
  split at h
  · change (insS (insV s i).1 i (insV s i).2.1).vars v ≠ s.vars v at h
    unfold insS at h
    split at h
    · rename_i hd
      refine ⟨hd, ?_⟩
      change updI (insV s i).1.vars i.dst _ v ≠ s.vars v at h
      unfold updI at h
      split at h
      · assumption
      · rw [insV_vars] at h; exact absurd rfl h
    · rw [insV_vars] at h; exact absurd rfl h
  · change (insV s i).1.vars v ≠ s.vars v at h
    rw [insV_vars] at h; exact absurd rfl h
theorem insF_set {s : RSt} {i : RIns} {bb ii : Int} (h : (insF s i).2 = .spot bb ii) (hd : 0 < i.dst) : (insF s i).1.vars i.dst ≠ none := by
  unfold insF at h ⊢
  split at h
  · rename_i hc
    rw [if_pos hc]
    show (insS (insV s i).1 i (insV s i).2.1).vars i.dst ≠ none
    unfold insS
    rw [if_pos hd]
    show updI _ i.dst _ i.dst ≠ none
    unfold updI
    rw [if_pos rfl]
    exact fun h => by cases h
  · cases h
theorem insF_mono {s : RSt} {i : RIns} {v : Int} (h : (insF s i).1.vars v = none) : s.vars v = none := by
  unfold insF at h
  split at h
  · change (insS (insV s i).1 i (insV s i).2.1).vars v = none at h
    unfold insS at h
    split at h
    · change updI (insV s i).1.vars i.dst _ v = none at h
      unfold updI at h
      split at h
      · cases h
      · rwa [insV_vars] at h
    · rwa [insV_vars] at h
  · change (insV s i).1.vars v = none at h
    rwa [insV_vars] at h
theorem defI_dst {i : RIns} : defI i = i.dst ∨ defI i = 0 := by
  unfold defI
  cases isIns i
  · exact .inr rfl
  · exact .inl rfl
theorem Unset.step {g : RFun} {s : RSt} {n : Nat} (hF : Fine g) (h : Runs g s n) (he : s.e = 0) (hu : Unset g s) (he' : (stepR g s).e = 0) : Unset g (stepR g s) := by
  obtain ⟨b, hb, hi⟩ := h.stand he
  have hS : stepR g s = nxS (stepB s b).1 (stepB s b).2 := by unfold stepR; rw [hb]
  have k1 := (stepB_keeps s b).1
  rw [hS] at he' ⊢
  cases hx : (stepB s b).2 with
  | done e v =>
    rw [hx] at he'
    have h0 : e = 0 := he'
    rcases stepB_done hx with h | h <;> omega
  | spot bb ii =>
    intro v hv hn
    have hn' : (stepB s b).1.vars v = none := hn
    cases hgi : b.ins[s.i]? with
    | some i =>
      have hB : stepB s b = insF (tick s) i := by unfold stepB; rw [hgi]
      rw [hB] at hx hn'
      obtain ⟨e1, e2⟩ := insF_spot hx
      have e1' : bb = s.b := e1
      have e2' : ii = (s.i : Int) + 1 := e2
      have hvn : s.vars v = none := insF_mono (s := tick s) hn'
      obtain ⟨u1, u2⟩ := hu v hv hvn
      show Bare g v.toNat bb.toNat ∧ ∀ x, g.blocks[bb.toNat]? = some x → ∀ k i, k < ii.toNat → x.ins[k]? = some i → defI i ≠ v
      rw [show bb.toNat = s.b by omega, show ii.toNat = s.i + 1 by omega]
      refine ⟨u1, fun x hx' k i' hk hi' => ?_⟩
      rcases Nat.lt_succ_iff_lt_or_eq.1 hk with hk | hk
      · exact u2 x hx' k i' hk hi'
      · subst hk
        rw [hb] at hx'
        have := Option.some.inj hx'
        subst this
        rw [hgi] at hi'
        have := Option.some.inj hi'
        subst this
        intro hd
        rcases defI_dst (i := i) with h1 | h1
        · have hd2 : v = i.dst := by omega
          exact insF_set hx (by omega) (by rw [← hd2]; exact hn')
        · omega
    | none =>
      have hB : stepB s b = (tick s, termF (tick s) b.term) := by unfold stepB; rw [hgi]
      rw [hB] at hx hn'
      have hbm := List.mem_of_getElem? hb
      obtain ⟨e1, e2⟩ := termF_spot (hF.term b hbm).1 hx
      have hvn : s.vars v = none := hn'
      obtain ⟨u1, u2⟩ := hu v hv hvn
      have hlen : b.ins.length ≤ s.i := List.getElem?_eq_none_iff.1 hgi
      have hr := (hF.term b hbm).2 bb e2
      show Bare g v.toNat bb.toNat ∧ ∀ x, g.blocks[bb.toNat]? = some x → ∀ k i, k < ii.toNat → x.ins[k]? = some i → defI i ≠ v
      refine ⟨.step u1 hb (fun i hi' => ?_) (by rw [Int.toNat_of_nonneg (by omega)]; exact e2), fun x _ k i hk _ => by rw [e1] at hk; exact absurd hk (Nat.not_lt_zero _)⟩
      obtain ⟨k, hk⟩ := List.mem_iff_getElem?.1 hi'
      have := u2 b hb k i (by have := (List.getElem?_eq_some_iff.1 hk).1; omega) hk
      omega
theorem Unset.read {g : RFun} {s : RSt} {b : RBlk} {i : RIns} {v : Int} (hv : valuedF g = true) (hu : Unset g s) (hb : g.blocks[s.b]? = some b) (hi : b.ins[s.i]? = some i) (hr : v ∈ readsL i) : (s.vars v).isSome = true := by
  cases hn : s.vars v with
  | some _ => rfl
  | none =>
    obtain ⟨u1, u2⟩ := hu v (readsL_mem hr).1 hn
    exact absurd u1 (valuedF_iff.1 hv s.b b v hb (exposed_mid hi (fun j hj i' hi' => u2 b hb j i' hj hi') hr))
theorem Unset.need {g : RFun} {s : RSt} {b : RBlk} {v : Int} (hv : valuedF g = true) (hu : Unset g s) (hb : g.blocks[s.b]? = some b) (hi : b.ins.length ≤ s.i) (hr : v ∈ needsL b.term) : (s.vars v).isSome = true := by
  cases hn : s.vars v with
  | some _ => rfl
  | none =>
    obtain ⟨u1, u2⟩ := hu v (needsL_mem hr).2.1 hn
    refine absurd u1 (valuedF_iff.1 hv s.b b v hb (exposed_end (fun i hi' => ?_) hr))
    obtain ⟨k, hk⟩ := List.mem_iff_getElem?.1 hi'
    exact u2 b hb k i (by have := (List.getElem?_eq_some_iff.1 hk).1; omega) hk
section
theorem run_Var_cm {w0 : World} {B : Nat} {y : RLay} {s : RSt} {v : Int} (hok : RunOk w0 B y s) :
    Cm Try.prog 52 #[.pointer (some ⟨y.gR, 0, none⟩), .int .i64 v] w0 B (runL y s) (fun u L => u = .tuple #[.int .i64 (s.get v), .bool (s.vars v).isSome] ∧ L = runL y s) := by
  refine Cm.mk Try.func52 rfl rfl fun M => ?_
  refine Cd.seq ?_
  refine Cd.region ?_
  refine Ol.p asi ?_
  refine Ol.p asb ?_
  refine Ol.nil ?_
  refine Cd.seq ?_
  refine Cd.seq ?_
  refine Cd.region ?_
  refine Ol.p mvp ?_
  refine Ol.p (epn pt_P_run_Run) ?_
  refine Ol.nil ?_
  refine Cd.cond rfl (fun h => nomatch h) (fun h => ?_)   -- $9
  refine Cd.skip ?_
  refine Cd.seq ?_
  have e : Value.tuple #[(mget y.es.toList v).getD (.int .i64 0), .bool (mget y.es.toList v).isSome] = .tuple #[.int .i64 (s.get v), .bool (s.vars v).isSome] := by
    rw [hok.getD, hok.get]
    cases s.vars v <;> rfl
  refine Cd.region ?_
  refine Ol.p mvp ?_
  refine Ol.p nlc ?_
  refine Ol.p (fdl fd_run_Run_0) ?_
  refine Ol.p (ld (v := .map (some y.gM)) one_run_vars (Rd.blk (i := 0) rfl rfl)) ?_
  refine Ol.p mvi ?_
  refine Ol.p (e ▸ lkc mt_run_vars (i := 1) rfl hok.all) ?_
  refine Ol.p mvt ?_
  refine Ol.p extv ?_
  refine Ol.p extv ?_
  refine Ol.p asi ?_
  refine Ol.p asb ?_
  refine Ol.nil ?_
  refine Cd.seq ?_
  refine Cd.region ?_
  refine Ol.p mvi ?_
  refine Ol.p mvb ?_
  refine Ol.p asi ?_
  refine Ol.p asb ?_
  refine Ol.nil ?_
  exact Cd.ret ⟨.tuple #[.int .i64 (s.get v), .bool (s.vars v).isSome], ret2 rfl rfl rfl, _, .all, rfl, rfl⟩
end
section
theorem run_At_cm {w0 : World} {B : Nat} {y : RLay} {s : RSt} :
    Cm Try.prog 49 #[.pointer (some ⟨y.gR, 0, none⟩)] w0 B (runL y s) (fun u L => u = .tuple #[.int .i64 s.b, .int .i64 s.i] ∧ L = runL y s) := by
  refine Cm.mk Try.func49 rfl rfl fun M => ?_
  refine Cd.seq ?_
  refine Cd.region ?_
  refine Ol.p asi ?_
  refine Ol.p asi ?_
  refine Ol.nil ?_
  refine Cd.seq ?_
  refine Cd.seq ?_
  refine Cd.region ?_
  refine Ol.p mvp ?_
  refine Ol.p (epn pt_P_run_Run) ?_
  refine Ol.nil ?_
  refine Cd.cond rfl (fun h => nomatch h) (fun h => ?_)   -- $5
  refine Cd.skip ?_
  refine Cd.seq ?_
  refine Cd.draw mixed 12 (fun _ => none) (fun _ => []) (by kernel_rfl) (fun _ _ h => by cases h) (fun u hu => ?_)
  refine Wk.p mvp ?_
  refine Wk.p nlc ?_
  refine Wk.p (fdl fd_run_Run_1) ?_
  refine Wk.p (fdl fd_run_spot_0) ?_
  refine Wk.p (ld (v := .int .i64 s.b) one_int (Rd.blk (i := 0) rfl rfl)) ?_
  refine Wk.p mvp ?_
  refine Wk.p nlc ?_
  refine Wk.p (fdl fd_run_Run_1) ?_
  refine Wk.p (fdl fd_run_spot_1) ?_
  refine Wk.p (ld (v := .int .i64 s.i) one_int (Rd.blk (i := 0) rfl rfl)) ?_
  refine Wk.p asi ?_
  refine Wk.p asi ?_
  refine Wk.nil ?_
  refine Ol.nil ?_
  exact Cd.ret ⟨.tuple #[.int .i64 s.b, .int .i64 s.i], ret2 rfl rfl rfl, _, .all, rfl, rfl⟩
end
section
theorem law08_goes_ct {w : World} {t : Tm} {b : Int} (hb : b ∈ toL t) : Ct Try.prog 53 #[t.val, .int .i64 b] w (Is (.bool true)) := by
  have h2 := toL_len t
  refine Ct.mk Try.func53 rfl rfl ?_
  refine Cd.seq ?_
  refine Cd.region ?_
  refine Ol.x bxg ?_
  rintro _ _ ⟨g2, rfl, rfl⟩
  refine Ol.p asb ?_
  refine Ol.nil ?_
  refine Cd.seq ?_
  refine Cd.region ?_
  refine Ol.p (ldw (cs := t.cells.toArray) ag_api_Term (i := 0) rfl rfl) ?_
  refine Ol.x (sp_call en_ir_To (fun M w' hh => ir_To_ct (t := t))) ?_
  rintro _ _ ⟨_, rfl, A8, c8, rfl, rfl⟩
  refine Ol.p ass ?_
  refine Ol.nil ?_
  refine Cd.seq ?_
  refine Cd.seq ?_
  refine Cd.region ?_
  refine Ol.p asi ?_
  refine Ol.nil ?_
  refine Cd.block ?_   -- 0
  refine Cd.loop (fun m σ L => ∃ k, m = (toL t).length - k ∧ k ≤ (toL t).length ∧ b ∈ (toL t).drop k ∧ Has σ [(1, .int .i64 b), (5, .slice A8 (toL t).length c8), (6, .int .i64 k)] ∧ [row (.slice A8 (toL t).length c8) 3 1 (toL t).length (ints (toL t)), blk g2 (.cells t.cells.toArray 29)] = L) (n := (toL t).length) ⟨0, rfl, Nat.zero_le _, hb, ⟨rfl, rfl, rfl, trivial⟩, rfl⟩ ?_
  rintro _ σ L ⟨k, rfl, hk, hd, hs, rfl⟩
  refine Cd.has hs ?_
  refine Cd.seq ?_
  refine Cd.seq ?_
  refine Cd.region ?_
  refine Ol.p mvi ?_
  refine Ol.p mvs ?_
  refine Ol.p (lens sl_L_int) ?_
  refine Ol.p lsi ?_
  refine Ol.nil ?_
  have hlt : k < (toL t).length := by
    rcases Nat.lt_or_ge k (toL t).length with h | h
    · exact h
    · rw [List.drop_eq_nil_of_le h] at hd; cases hd
  refine Cd.cond rfl (fun h => ?_) (fun h => ?_)   -- $12
  · obtain ⟨n, hn⟩ : ∃ n, (toL t)[k]? = some n := ⟨_, List.getElem?_eq_getElem hlt⟩
    refine Cd.skip ?_
    refine Cd.seq ?_
    refine Cd.block ?_   -- 1
    refine Cd.seq ?_
    refine Cd.region ?_
    refine Ol.p mvs ?_
    refine Ol.p mvi ?_
    refine Ol.p (ixn1 (ix := k) sl_L_int (Som.row (i := 0) rfl (by omega))) ?_
    refine Ol.p (ld one_int (Rd.row (i := 0) rfl (ints_at hn))) ?_
    refine Ol.p mvi ?_
    refine Ol.p eqi ?_
    refine Ol.nil ?_
    refine Cd.cond rfl (fun h => ?_) (fun h => ?_)   -- $20
    · refine Cd.seq ?_
      refine Cd.region ?_
      refine Ol.p asb ?_
      refine Ol.nil ?_
      exact Cd.ret ⟨.bool true, ret1 rfl rfl, [], Keep.nil, rfl, rfl⟩
    have hne : ¬ n = b := of_decide_eq_false h
    refine Cd.skip ?_
    refine Cd.region ?_
    refine Ol.p mvi ?_
    refine Ol.p addi ?_
    refine Ol.p asi ?_
    refine Ol.nil ?_
    refine ⟨(toL t).length - (k + 1), by omega, k + 1, rfl, by omega, ?_, ⟨rfl, rfl, rfl, trivial⟩, rfl⟩
    rw [List.drop_eq_getElem_cons hlt] at hd
    rcases List.mem_cons.1 hd with h | h
    · have := (List.getElem?_eq_some_iff.1 hn).2
      exact absurd (this.symm.trans h.symm) hne
    · exact h
  exact absurd hlt (by simp only [decide_eq_false_iff_not] at h; omega)
end
end Go.Proofs.Ytcojedoejpcolaa

/- The law 08: its example, walked. -/
namespace Go.Proofs.Ytcojedoejpcolaa
set_option linter.unusedVariables false
open Go Go.RowKit
set_option maxRecDepth 100000

section
def J08a : RIns := ⟨1, 1, 0, 0, 0, 0, none, 0, [], 0⟩
def J08b : RIns := ⟨5, 1, 1, 1, 0, 0, none, 0, [], 0⟩
def J08c : RIns := ⟨13, 1, 0, 0, 0, 3, none, 0, [], 0⟩
def I08a : List RIns := [J08a, J08b]
def I08b : List RIns := [J08c]
def B08 (il : List RIns) (gi : Nat) : RBlk := ⟨some ⟨gi, 0, none⟩, il.length, il, ⟨3, 1, 0, 0⟩⟩
def F08 (il : List RIns) (gb gi : Nat) : RFun := ⟨none, 0, [], some ⟨gb, 0, none⟩, 1, [B08 il gi]⟩
theorem F08_fit {il : List RIns} {gb gi : Nat} (h : il = I08a ∨ il = I08b) : Fit (F08 il gb gi) := by
  rcases h with rfl | rfl <;> constructor <;> simp [F08, B08, I08a, I08b, J08a, J08b, J08c]
theorem I08_args {il : List RIns} (h : il = I08a ∨ il = I08b) : ∀ i ∈ il, i.args = [] ∧ i.aA = none := by
  intro i hi
  rcases h with rfl | rfl
  · simp [I08a] at hi
    rcases hi with rfl | rfl <;> exact ⟨rfl, rfl⟩
  · simp [I08b] at hi
    subst hi
    exact ⟨rfl, rfl⟩
theorem F08_at {w : World} {B gb gi : Nat} {il : List RIns} (hl : il = I08a ∨ il = I08b) (h : Reads w B 5 (some ⟨gb, 0, none⟩) 1 ((F08 il gb gi).blocks.flatMap RBlk.cells)) (hi : Reads w B 8 (some ⟨gi, 0, none⟩) il.length (il.flatMap RIns.cells)) : FunAt w B (F08 il gb gi) := by
  refine ⟨reads_no, h, ?_, ?_⟩
  · intro b hb
    simp [F08] at hb
    subst hb
    exact hi
  · intro b hb i hi
    simp [F08] at hb
    subst hb
    obtain ⟨h1, h2⟩ := I08_args hl i hi
    rw [h1, h2]
    exact reads_no
theorem F08_alen {gb gi : Nat} {il : List RIns} (hl : il = I08a ∨ il = I08b) (n : Nat) : ∀ b ∈ (F08 il gb gi).blocks, ∀ i ∈ b.ins, i.args.length < 2 ^ n := by
  intro b hb i hi
  simp [F08] at hb
  subst hb
  rw [(I08_args hl i hi).1]
  exact Nat.two_pow_pos n
theorem F08_in {w : World} {B gb gi : Nat} {il : List RIns} (hl : il = I08a ∨ il = I08b) (h : FunAt w B (F08 il gb gi)) : BlksIn w B (F08 il gb gi).bA (F08 il gb gi).blocks := by
  refine ⟨h.blocks, h.ins, h.args, by simp [F08], fun b hb => ?_, F08_alen hl 44⟩
  simp [F08] at hb
  subst hb
  rcases hl with rfl | rfl <;> simp [B08, I08a, I08b]
theorem F08_blk {gb gi b : Nat} {il : List RIns} {x : RBlk} (hx : (F08 il gb gi).blocks[b]? = some x) : b = 0 ∧ x = B08 il gi := by
  have h0 : b = 0 := by
    have := (List.getElem?_eq_some_iff.1 hx).1
    simp [F08] at this; exact this
  subst h0
  exact ⟨rfl, by simpa [F08] using hx.symm⟩
theorem F08_ord {gb gi : Nat} {il : List RIns} : (F08 il gb gi).blocks.length ≤ (orderF (F08 il gb gi).terms).length := by
  have : (0 : Nat) ∈ orderF (F08 il gb gi).terms := List.contains_iff_mem.1 (show (orderF [(⟨3, 1, 0, 0⟩ : Tm)]).contains 0 = true by kernel_rfl)
  exact List.length_pos_of_mem this
theorem e08n : needsL ⟨3, 1, 0, 0⟩ = [1] := by kernel_rfl
theorem e08a : readsL J08a = [] ∧ defI J08a = 1 := ⟨by kernel_rfl, by kernel_rfl⟩
theorem e08b : readsL J08b = [1, 1] ∧ defI J08b = 1 := ⟨by kernel_rfl, by kernel_rfl⟩
theorem e08c : readsL J08c = [] ∧ defI J08c = 1 := ⟨by kernel_rfl, by kernel_rfl⟩
theorem F08_r {gb gi : Nat} {il : List RIns} (hl : il = I08a ∨ il = I08b) : rightF (F08 il gb gi) = 0 := by
  rw [rightF_iff]
  refine ⟨by rcases hl with rfl | rfl <;> kernel_rfl, by rcases hl with rfl | rfl <;> kernel_rfl, by rcases hl with rfl | rfl <;> kernel_rfl, F08_ord, ?_⟩
  rw [valuedF_iff]
  intro b x v hx he
  obtain ⟨rfl, rfl⟩ := F08_blk hx
  exfalso
  rcases hl with rfl | rfl
  · simp [B08, I08a, exposed, e08a.1, e08a.2, e08b.1, e08b.2, e08n] at he
    omega
  · simp [B08, I08b, exposed, e08c.1, e08c.2, e08n] at he
    omega
theorem GoR.ok {f : RFun} {args mem ans : List Int} {n : Int} {v : Value} {R : List Res} (h : GoR f args mem ans n v R) (hok : okB f args mem) (hn : n ≤ 20000) : ∃ z : RRes, z.of (goS f (begS f args mem ans) n.toNat) ∧ v = .tuple #[.agg z.cells.toArray, .int .i64 0] ∧ R.Perm z.res := by
  rcases h with ⟨_, _, h⟩ | ⟨h, _⟩ | ⟨_, h, _⟩
  · exact h
  · exact absurd hok h
  · omega
theorem RRes.one (z : RRes) : ∀ u ∈ z.cells.toArray.toList, u.oneCell' = true := by
  intro u hu
  simp [RRes.cells] at hu
  rcases hu with rfl | rfl | rfl | rfl | rfl <;> rfl
def G08a (gb gi : Nat) : RSt := goS (F08 I08a gb gi) (begS (F08 I08a gb gi) [] [] []) 9
def G08b (gb gi : Nat) (l : List Int) : RSt := goS (F08 I08b gb gi) (begS (F08 I08b gb gi) [] [] l) 9
theorem G08a_e {gb gi : Nat} : (G08a gb gi).e = 2 ∧ (G08a gb gi).steps = 2 := ⟨by kernel_rfl, by kernel_rfl⟩
theorem G08b_e {gb gi : Nat} : (G08b gb gi []).e = 2 ∧ (G08b gb gi []).calls.length = 1 := ⟨by kernel_rfl, by kernel_rfl⟩
theorem G08c_e {gb gi : Nat} : (G08b gb gi [7]).e = 1 ∧ (G08b gb gi [7]).v = 7 := ⟨by kernel_rfl, by kernel_rfl⟩
theorem F08_okB {gb gi : Nat} {il : List RIns} (hl : il = I08a ∨ il = I08b) : okB (F08 il gb gi) [] [] := ⟨F08_r hl, rfl, Nat.zero_le _⟩
theorem go08_ct {w : World} {gb gi nC : Nat} {il : List RIns} {nA : Option Addr} {ans : List Int} (hl : il = I08a ∨ il = I08b) (h : Reads w w.heap.size 5 (some ⟨gb, 0, none⟩) 1 ((F08 il gb gi).blocks.flatMap RBlk.cells)) (hi : Reads w w.heap.size 8 (some ⟨gi, 0, none⟩) il.length (il.flatMap RIns.cells)) (hn : Reads w w.heap.size 1 nA ans.length (ints ans)) (hnl : ans.length < 2 ^ 43) :
    Ct Try.prog 46 #[(F08 il gb gi).val, .slice none 0 0, .slice none 0 0, .slice nA ans.length nC, .int .i64 9] w (GoR (F08 il gb gi) [] [] ans 9) :=
  run_Go_ct (f := F08 il gb gi) (args := []) (mem := []) (ans := ans) (n := 9) (F08_at hl h hi) (F08_fit hl) (by simp [F08]) (F08_in hl (F08_at hl h hi)) (F08_alen hl 43) reads_no reads_no hn (by simp) hnl
set_option maxHeartbeats 4000000 in
theorem law08_awake_ct {w : World} : Ct Try.prog 45 #[] w (Is (.bool true)) := by
  refine Ct.mk Try.func45 rfl rfl ?_
  refine Cd.seq ?_
  refine Cd.region ?_
  refine Ol.p asb ?_
  refine Ol.nil ?_
  refine Cd.seq ?_
  refine Cd.region ?_
  refine Ol.p (bds (cs := #[.int .i64 3, .int .i64 1, .int .i64 0, .int .i64 0]) bs_api_Term zr_api_Term (hf := by kernel_rfl)) ?_
  refine Ol.x (alc zr_api_Term) ?_
  rintro _ _ ⟨g1, rfl, rfl⟩
  refine Ol.s (stw (vs := #[.int .i64 3, .int .i64 1, .int .i64 0, .int .i64 0]) sz_api_Term rfl (by intro u hu; simp at hu; rcases hu with rfl | rfl | rfl <;> rfl) (i := 0) rfl rfl) ?_
  refine Ol.nil ?_
  refine Cd.seq ?_
  refine Cd.region ?_
  refine Ol.p (bds (cs := J08a.cells.toArray) bs_api_Ins zr_api_Ins (hf := by kernel_rfl)) ?_
  refine Ol.p (bds (cs := J08b.cells.toArray) bs_api_Ins zr_api_Ins (hf := by kernel_rfl)) ?_
  refine Ol.x (bsn [J08a.val, J08b.val] sl_L_api_Ins zr_api_Ins (by intro v hv; simp at hv; rcases hv with rfl | rfl <;> rfl) rfl (by decide) (by decide)) ?_
  rintro _ _ ⟨gi, rfl, rfl⟩
  refine Ol.p (ldw (cs := #[.int .i64 3, .int .i64 1, .int .i64 0, .int .i64 0]) ag_api_Term (i := 1) rfl rfl) ?_
  refine Ol.p (bds (cs := #[.slice (some ⟨gi, 0, none⟩) 2 2, .int .i64 3, .int .i64 1, .int .i64 0, .int .i64 0]) bs_api_Block zr_api_Block (hf := by kernel_rfl)) ?_
  refine Ol.x (bsn [RBlk.val (B08 I08a gi)] sl_L_api_Block zr_api_Block (by intro v hv; simp at hv; subst hv; rfl) rfl (by decide) (by decide)) ?_
  rintro _ _ ⟨gb, rfl, rfl⟩
  refine Ol.p (bds (cs := #[.slice none 0 0, .slice (some ⟨gb, 0, none⟩) 1 1]) bs_api_Func zr_api_Func (hf := by kernel_rfl)) ?_
  refine Ol.x (alc zr_api_Func) ?_
  rintro _ _ ⟨g2, rfl, rfl⟩
  refine Ol.s (stw (vs := #[.slice none 0 0, .slice (some ⟨gb, 0, none⟩) 1 1]) sz_api_Func rfl (by intro u hu; simp at hu; rcases hu with rfl | rfl <;> rfl) (i := 0) rfl rfl) ?_
  refine Ol.nil ?_
  refine Cd.seq ?_
  refine Cd.region ?_
  refine Ol.p (bds (cs := J08c.cells.toArray) bs_api_Ins zr_api_Ins (hf := by kernel_rfl)) ?_
  refine Ol.x (bsn [J08c.val] sl_L_api_Ins zr_api_Ins (by intro v hv; simp at hv; subst hv; rfl) rfl (by decide) (by decide)) ?_
  rintro _ _ ⟨gi2, rfl, rfl⟩
  refine Ol.p (ldw (cs := #[.int .i64 3, .int .i64 1, .int .i64 0, .int .i64 0]) ag_api_Term (i := 4) rfl rfl) ?_
  refine Ol.p (bds (cs := #[.slice (some ⟨gi2, 0, none⟩) 1 1, .int .i64 3, .int .i64 1, .int .i64 0, .int .i64 0]) bs_api_Block zr_api_Block (hf := by kernel_rfl)) ?_
  refine Ol.x (bsn [RBlk.val (B08 I08b gi2)] sl_L_api_Block zr_api_Block (by intro v hv; simp at hv; subst hv; rfl) rfl (by decide) (by decide)) ?_
  rintro _ _ ⟨gb2, rfl, rfl⟩
  refine Ol.p (bds (cs := #[.slice none 0 0, .slice (some ⟨gb2, 0, none⟩) 1 1]) bs_api_Func zr_api_Func (hf := by kernel_rfl)) ?_
  refine Ol.x (alc zr_api_Func) ?_
  rintro _ _ ⟨g3, rfl, rfl⟩
  refine Ol.s (stw (vs := #[.slice none 0 0, .slice (some ⟨gb2, 0, none⟩) 1 1]) sz_api_Func rfl (by intro u hu; simp at hu; rcases hu with rfl | rfl <;> rfl) (i := 0) rfl rfl) ?_
  refine Ol.nil ?_
  refine Cd.seq ?_
  refine Cd.region ?_
  refine Ol.p (ldw (cs := (F08 I08a gb gi).cells.toArray) ag_api_Func (i := 3) rfl rfl) ?_
  refine Ol.x (sp_call (vs := [(F08 I08a gb gi).val, .slice none 0 0, .slice none 0 0, .slice none 0 0, .int .i64 9]) (R := GoR (F08 I08a gb gi) [] [] [] 9) en_run_Go (fun M w' hh => go08_ct (ans := []) (.inl rfl) (Reads.row hh (i := 4) rfl) (Reads.row hh (i := 5) rfl) reads_no (by simp))) ?_
  rintro _ _ ⟨R1, rfl, hR1⟩
  obtain ⟨z1, hz1, rfl, _⟩ := hR1.ok (F08_okB (.inl rfl)) (by decide)
  refine Ol.keep Keep.snd ?_
  refine Ol.p mvt ?_
  refine Ol.p extv ?_
  refine Ol.p extv ?_
  refine Ol.x (alc zr_run_Result) ?_
  rintro _ _ ⟨g4, rfl, rfl⟩
  refine Ol.s (stw (vs := z1.cells.toArray) sz_run_Result rfl z1.one (i := 0) rfl rfl) ?_
  refine Ol.p asi ?_
  refine Ol.nil ?_
  refine Cd.seq ?_
  refine Cd.region ?_
  refine Ol.p (ldw (cs := (F08 I08b gb2 gi2).cells.toArray) ag_api_Func (i := 1) rfl rfl) ?_
  refine Ol.x (sp_call (vs := [(F08 I08b gb2 gi2).val, .slice none 0 0, .slice none 0 0, .slice none 0 0, .int .i64 9]) (R := GoR (F08 I08b gb2 gi2) [] [] [] 9) en_run_Go (fun M w' hh => go08_ct (ans := []) (.inr rfl) (Reads.row hh (i := 2) rfl) (Reads.row hh (i := 3) rfl) reads_no (by simp))) ?_
  rintro _ _ ⟨R2, rfl, hR2⟩
  obtain ⟨z2, hz2, rfl, _⟩ := hR2.ok (F08_okB (.inr rfl)) (by decide)
  refine Ol.keep Keep.snd ?_
  refine Ol.p mvt ?_
  refine Ol.p extv ?_
  refine Ol.p extv ?_
  refine Ol.x (alc zr_run_Result) ?_
  rintro _ _ ⟨g6, rfl, rfl⟩
  refine Ol.s (stw (vs := z2.cells.toArray) sz_run_Result rfl z2.one (i := 0) rfl rfl) ?_
  refine Ol.p asi ?_
  refine Ol.nil ?_
  refine Cd.seq ?_
  refine Cd.region ?_
  refine Ol.p (ldw (cs := (F08 I08b gb2 gi2).cells.toArray) ag_api_Func (i := 2) rfl rfl) ?_
  refine Ol.x (bsv [.int .i64 7] sl_L_int zr_int (by simp [Value.cells])) ?_
  rintro _ _ ⟨gn, rfl, rfl⟩
  refine Ol.x (sp_call (vs := [(F08 I08b gb2 gi2).val, .slice none 0 0, .slice none 0 0, .slice (some ⟨gn, 0, none⟩) 1 1, .int .i64 9]) (R := GoR (F08 I08b gb2 gi2) [] [] [7] 9) en_run_Go (fun M w' hh => go08_ct (ans := [7]) (.inr rfl) (Reads.row hh (i := 4) rfl) (Reads.row hh (i := 5) rfl) (Reads.row hh (i := 0) rfl) (by simp))) ?_
  rintro _ _ ⟨R3, rfl, hR3⟩
  obtain ⟨z3, hz3, rfl, _⟩ := hR3.ok (F08_okB (.inr rfl)) (by decide)
  refine Ol.keep Keep.snd ?_
  refine Ol.p mvt ?_
  refine Ol.p extv ?_
  refine Ol.p extv ?_
  refine Ol.x (alc zr_run_Result) ?_
  rintro _ _ ⟨g8, rfl, rfl⟩
  refine Ol.s (stw (vs := z3.cells.toArray) sz_run_Result rfl z3.one (i := 0) rfl rfl) ?_
  refine Ol.p asi ?_
  refine Ol.nil ?_
  have h2 : decide ((0 : Int) = 0) = true := rfl
  replace hz1 : z1.of (G08a gb gi) := hz1
  replace hz2 : z2.of (G08b gb2 gi2 []) := hz2
  replace hz3 : z3.of (G08b gb2 gi2 [7]) := hz3
  have h7 : decide (z1.e = 2) = true := by rw [hz1.1, G08a_e.1]; rfl
  have h12 : decide ((z1.steps : Int) = 2) = true := by rw [hz1.2.2.2.1, G08a_e.2]; rfl
  have h21 : decide (z2.e = 2) = true := by rw [hz2.1, G08b_e.1]; rfl
  have h27 : decide ((z2.recs.length : Int) = 1) = true := by
    have e1 := congrArg List.length hz2.2.2.2.2
    rw [List.length_map, G08b_e.2] at e1
    rw [e1]; rfl
  have h36 : decide (z3.e = 1) = true := by rw [hz3.1, G08c_e.1]; rfl
  have h40 : decide (z3.v = 7) = true := by rw [hz3.2.1, G08c_e.2]; rfl
  refine Cd.seq ?_
  refine Cd.region ?_
  refine Ol.p mvi ?_
  refine Ol.p eqi ?_
  refine Ol.p mvb ?_
  refine Ol.gp h2 (fdl fd_run_Result_0) ?_
  refine Ol.gp h2 (ld (v := .int .i64 z1.e) one_api_EndKind (Rd.blk (i := 3) rfl rfl)) ?_
  refine Ol.gp h2 eqi ?_
  refine Ol.p (pkTb h2) ?_
  refine Ol.p mvb ?_
  refine Ol.gp h7 (fdl fd_run_Result_4) ?_
  refine Ol.gp h7 (ld (v := .int .i64 z1.steps) one_int (Rd.blk (i := 3) rfl rfl)) ?_
  refine Ol.gp h7 eqi ?_
  refine Ol.p (pkTb h7) ?_
  refine Ol.p mvb ?_
  refine Ol.gp h12 mvi ?_
  refine Ol.gp h12 eqi ?_
  refine Ol.p (pkTb h12) ?_
  refine Ol.p mvb ?_
  refine Ol.gp h2 (fdl fd_run_Result_0) ?_
  refine Ol.gp h2 (ld (v := .int .i64 z2.e) one_api_EndKind (Rd.blk (i := 2) rfl rfl)) ?_
  refine Ol.gp h2 eqi ?_
  refine Ol.p (pkTb h2) ?_
  refine Ol.p mvb ?_
  refine Ol.gp h21 (fdl fd_run_Result_2) ?_
  refine Ol.gp h21 (ld (v := .slice z2.cA z2.recs.length z2.cC) one_L_api_Call (Rd.blk (i := 2) rfl rfl)) ?_
  refine Ol.gp h21 (lens sl_L_api_Call) ?_
  refine Ol.gp h21 eqi ?_
  refine Ol.p (pkTb h21) ?_
  refine Ol.p mvb ?_
  refine Ol.gp h27 mvi ?_
  refine Ol.gp h27 eqi ?_
  refine Ol.p (pkTb h27) ?_
  refine Ol.p mvb ?_
  refine Ol.gp h2 (fdl fd_run_Result_0) ?_
  refine Ol.gp h2 (ld (v := .int .i64 z3.e) one_api_EndKind (Rd.blk (i := 0) rfl rfl)) ?_
  refine Ol.gp h2 eqi ?_
  refine Ol.p (pkTb h2) ?_
  refine Ol.p mvb ?_
  refine Ol.gp h36 (fdl fd_run_Result_1) ?_
  refine Ol.gp h36 (ld (v := .int .i64 z3.v) one_int (Rd.blk (i := 0) rfl rfl)) ?_
  refine Ol.gp h36 eqi ?_
  refine Ol.p (pkTb h36) ?_
  refine Ol.p asb ?_
  refine Ol.nil ?_
  exact Cd.ret ⟨.bool _, ret1 rfl rfl, [], Keep.nil, congrArg Value.bool h40, rfl⟩
end
section
theorem law08_RunCalcs_ct {w : World} {o a b : Int} : Ct Try.prog 7 #[.int .i64 o, .int .i64 a, .int .i64 b] w (Is (.bool true)) := by
  refine Ct.mk Try.func7 rfl rfl ?_
  refine Cd.seq ?_
  refine Cd.region ?_
  refine Ol.p asb ?_
  refine Ol.nil ?_
  obtain ⟨x, c, hv⟩ : ∃ x c, calcV o a b = .tuple #[.int .i64 x, .bool c] := ⟨_, _, rfl⟩
  refine Cd.seq ?_
  refine Cd.region ?_
  refine Ol.p mvi ?_
  refine Ol.p mvi ?_
  refine Ol.p mvi ?_
  refine Ol.s (cl (v := .tuple #[.int .i64 x, .bool c]) en_run_Calc (fun M w' hh => hv ▸ run_Calc_ct)) ?_
  refine Ol.p mvt ?_
  refine Ol.p extv ?_
  refine Ol.p extv ?_
  refine Ol.p asi ?_
  refine Ol.p asb ?_
  refine Ol.nil ?_
  refine Cd.seq ?_
  refine Cd.region ?_
  refine Ol.p mvi ?_
  refine Ol.p mvi ?_
  refine Ol.p mvi ?_
  refine Ol.s (cl (v := .tuple #[.int .i64 x, .bool c]) en_ref08_Calc (fun M w' hh => hv ▸ ref08_Calc_ct)) ?_
  refine Ol.p mvt ?_
  refine Ol.p extv ?_
  refine Ol.p extv ?_
  refine Ol.p asi ?_
  refine Ol.p asb ?_
  refine Ol.nil ?_
  have h3 : decide (x = x) = true := by simp
  have h8 : (c == c) = true := by simp
  refine Cd.seq ?_
  refine Cd.region ?_
  refine Ol.p mvi ?_
  refine Ol.p mvi ?_
  refine Ol.p eqi ?_
  refine Ol.p mvb ?_
  refine Ol.gp h3 mvb ?_
  refine Ol.gp h3 mvb ?_
  refine Ol.gp h3 (eqb bo_bool) ?_
  refine Ol.p (pkTb h3) ?_
  refine Ol.p mvb ?_
  refine Ol.gs h8 (cl en_law08_awake (fun M w' hh => law08_awake_ct)) ?_
  refine Ol.p (pkTb h8) ?_
  refine Ol.p asb ?_
  refine Ol.nil ?_
  exact Cd.ret ⟨.bool _, ret1 rfl rfl, [], Keep.nil, rfl, rfl⟩
end
end Go.Proofs.Ytcojedoejpcolaa

/- The law 08: RunAgain, walked. -/
namespace Go.Proofs.Ytcojedoejpcolaa
set_option linter.unusedVariables false
open Go Go.RowKit
set_option maxRecDepth 100000

theorem s8_arg : ∀ {l : List RIns} {i : RIns}, i ∈ l → i.args.length ≤ argSum l
  | [], _, h => by cases h
  | a :: l, i, h => by
    have e : argSum (a :: l) = a.args.length + argSum l := by simp [argSum]
    rcases List.mem_cons.1 h with rfl | h
    · omega
    · have := s8_arg h; omega
theorem s8_blk : ∀ {l : List RBlk} {b : RBlk}, b ∈ l → bsz b ≤ blocksSz l
  | [], _, h => by cases h
  | a :: l, b, h => by
    have e : blocksSz (a :: l) = bsz a + blocksSz l := by simp [blocksSz]
    rcases List.mem_cons.1 h with rfl | h
    · omega
    · have := s8_blk h; omega
theorem s8_len : ∀ l : List RBlk, l.length ≤ blocksSz l
  | [] => by simp
  | a :: l => by
    have e : blocksSz (a :: l) = bsz a + blocksSz l := by simp [blocksSz]
    have := s8_len l
    have h2 : 1 ≤ bsz a := by unfold bsz; omega
    simp only [List.length_cons]; omega
theorem s8_alen {f : RFun} (h : f.sz ≤ 700) : ∀ b ∈ f.blocks, ∀ i ∈ b.ins, i.args.length ≤ 700 := fun b hb i hi => by
  have h0 : f.params.length + blocksSz f.blocks ≤ 700 := h
  have := s8_blk hb
  have h3 := s8_arg hi
  unfold bsz at this; omega
theorem BlksIn.of8 {w : World} {f : RFun} (hf : FunAt w w.heap.size f) (h : f.sz ≤ 700) : BlksIn w w.heap.size f.bA f.blocks := by
  have h1 := s8_len f.blocks
  have h0 : f.params.length + blocksSz f.blocks ≤ 700 := h
  refine ⟨hf.blocks, hf.ins, hf.args, by omega, fun b hb => ?_, fun b hb i hi => ?_⟩
  · have := s8_blk hb
    unfold bsz at this; omega
  · have := s8_alen h b hb i hi
    omega
section
theorem recsIn_own {w0 w : World} {B : Nat} {M L : List Res} {z : RRes} (hh : Hp w0 B (M ++ L) w) (hs : ∀ r ∈ z.res, r ∈ L) (hl : z.recs.length < 2 ^ 60) (ha : ∀ r ∈ z.recs, r.args.length < 2 ^ 43) : RecsIn w w.heap.size z.cA z.recs := by
  have key : ∀ {A : Option Addr} {n c e s : Nat} {xs : List Value}, row (Value.slice A n c) e s n xs ∈ z.res → Reads w w.heap.size s A n xs := fun hm => by
    obtain ⟨i, hi⟩ := List.mem_iff_getElem?.1 (hs _ hm)
    exact Reads.row hh hi
  exact ⟨key (List.mem_cons_self ..), fun r hr => key (List.mem_cons_of_mem _ (List.mem_cons_of_mem _ (List.mem_map_of_mem hr))), hl, fun r hr => Nat.lt_trans (ha r hr) (by decide)⟩
theorem res_memIn {w0 w : World} {B : Nat} {M L : List Res} {z : RRes} (hh : Hp w0 B (M ++ L) w) (hs : ∀ r ∈ z.res, r ∈ L) : Reads w w.heap.size 1 z.mA z.mem.length (ints z.mem) := by
  obtain ⟨i, hi⟩ := List.mem_iff_getElem?.1 (hs _ (List.mem_cons_of_mem _ (List.mem_cons_self ..)))
  exact Reads.row hh hi
end
theorem RRes.lens {z : RRes} {s : RSt} {g : RFun} {n : Nat} (hz : z.of s) (hr : Runs g s n) : z.recs.length ≤ n ∧ (∀ r ∈ z.recs, r.args.length < 2 ^ 43) ∧ z.mem.length ≤ 64 ∧ z.steps ≤ n := by
  obtain ⟨_, _, h3, h4, h5⟩ := hz
  have hl : z.recs.length = s.calls.length := by rw [← h5, List.length_map]
  refine ⟨by rw [hl]; exact hr.calls, fun r hr' => ?_, by rw [h3]; exact hr.mem, by rw [h4]; exact hr.steps⟩
  exact hr.args r.two (by rw [← h5]; exact List.mem_map_of_mem hr')
section
theorem GoR.no {f : RFun} {args mem ans : List Int} {n : Int} {v : Value} {R : List Res} (h : GoR f args mem ans n v R) (hno : ¬ okB f args mem) : v = .tuple #[noRes, .int .i64 2] ∧ R = [] := by
  rcases h with ⟨h, _⟩ | ⟨_, h⟩ | ⟨h, _⟩
  · exact absurd h hno
  · exact h
  · exact absurd h hno
theorem sameCalls_pre {w : World} {A B : Option Addr} {c d : Nat} {a b : List CRec} (ha : RecsIn w w.heap.size A a) (hb : RecsIn w w.heap.size B b) (hle : a.length ≤ b.length) :
    Ct Try.prog 47 #[.slice A a.length c, .slice B a.length d] w (Is (.bool (decide (a.map CRec.two = (b.take a.length).map CRec.two)))) := by
  have h := law08_sameCalls_ct (c := c) (d := d) ha (hb.take hle)
  rw [List.length_take, Nat.min_eq_left hle] at h
  exact h
set_option maxHeartbeats 1600000 in
theorem law08_RunAgain_ct {w : World} {f : RFun} {aA mA nA : Option Addr} {aC mC nC : Nat} {args mem ans : List Int} {fuel less : Int} (hf : FunAt w w.heap.size f) (hfit : Fit f) (ha : Reads w w.heap.size 1 aA args.length (ints args)) (hal : args.length < 2 ^ 60) (hm : Reads w w.heap.size 1 mA mem.length (ints mem)) (hml : mem.length < 2 ^ 60) (hn : Reads w w.heap.size 1 nA ans.length (ints ans)) (hnl : ans.length < 2 ^ 60) :
    Ct Try.prog 8 #[f.val, .slice aA args.length aC, .slice mA mem.length mC, .slice nA ans.length nC, .int .i64 fuel, .int .i64 less] w (Is (.bool true)) := by
  refine Ct.mk Try.func8 rfl rfl ?_
  refine Cd.seq ?_
  refine Cd.region ?_
  refine Ol.x bxg ?_
  rintro _ _ ⟨g6, rfl, rfl⟩
  refine Ol.p asb ?_
  refine Ol.nil ?_
  refine Cd.seq ?_
  refine Cd.seq ?_
  refine Cd.region ?_
  refine Ol.s (cl en_law08_awake (fun M w' hh => law08_awake_ct)) ?_
  refine Ol.p noti ?_
  refine Ol.nil ?_
  refine Cd.cond rfl (fun h => by cases h) (fun h => ?_)
  refine Cd.skip ?_
  refine Cd.seq ?_
  refine Cd.mid (fun σ' L' => ∃ b : Bool, (b = false → f.sz ≤ 700 ∧ args.length ≤ 700 ∧ mem.length ≤ 700 ∧ ans.length ≤ 700 ∧ 0 ≤ fuel ∧ fuel ≤ 2000) ∧ Has σ' [(1, .slice aA args.length aC), (2, .slice mA mem.length mC), (3, .slice nA ans.length nC), (4, .int .i64 fuel), (5, .int .i64 less), (6, .pointer (some ⟨g6, 0, none⟩)), (44, .bool b)] ∧ [blk g6 (.cells f.cells.toArray 43)] = L') ?_ ?_
  · skip
    refine Cd.region ?_
    refine Ol.p (ldw ag_api_Func (i := 0) rfl rfl) ?_
    refine Ol.x (sp_call en_kit_FuncOf (fun M w' hh => kit_FuncOf_ct (hf.now hh) hfit (most := 700) (by decide))) ?_
    rintro _ _ ⟨_, rfl, N, rfl, hN1, hN2, rfl⟩
    cases h12 : decide ((700 : Int) < (N : Int) + args.length + mem.length + ans.length) with
    | true =>
      refine Ol.p mvs ?_
      refine Ol.p (lens sl_L_int) ?_
      refine Ol.p addi ?_
      refine Ol.p mvs ?_
      refine Ol.p (lens sl_L_int) ?_
      refine Ol.p addi ?_
      refine Ol.p mvs ?_
      refine Ol.p (lens sl_L_int) ?_
      refine Ol.p addi ?_
      refine Ol.p gti ?_
      refine Ol.p mvb ?_
      refine Ol.gn h12 ?_
      refine Ol.gn h12 ?_
      refine Ol.p (pkTb h12) ?_
      refine Ol.p mvb ?_
      refine Ol.gn rfl ?_
      refine Ol.gn rfl ?_
      refine Ol.p (pkTb rfl) ?_
      refine Ol.nil ?_
      exact ⟨true, (fun h => by cases h), ⟨rfl, rfl, rfl, rfl, rfl, rfl, rfl, trivial⟩, rfl⟩
    | false =>
      cases h16 : decide ((2000 : Int) < fuel) with
      | true =>
        refine Ol.p mvs ?_
        refine Ol.p (lens sl_L_int) ?_
        refine Ol.p addi ?_
        refine Ol.p mvs ?_
        refine Ol.p (lens sl_L_int) ?_
        refine Ol.p addi ?_
        refine Ol.p mvs ?_
        refine Ol.p (lens sl_L_int) ?_
        refine Ol.p addi ?_
        refine Ol.p gti ?_
        refine Ol.p mvb ?_
        refine Ol.gp h12 mvi ?_
        refine Ol.gp h12 gti ?_
        refine Ol.p (pkFb h12) ?_
        refine Ol.p mvb ?_
        refine Ol.gn h16 ?_
        refine Ol.gn h16 ?_
        refine Ol.p (pkTb h16) ?_
        refine Ol.nil ?_
        exact ⟨true, (fun h => by cases h), ⟨rfl, rfl, rfl, rfl, rfl, rfl, rfl, trivial⟩, rfl⟩
      | false =>
        refine Ol.p mvs ?_
        refine Ol.p (lens sl_L_int) ?_
        refine Ol.p addi ?_
        refine Ol.p mvs ?_
        refine Ol.p (lens sl_L_int) ?_
        refine Ol.p addi ?_
        refine Ol.p mvs ?_
        refine Ol.p (lens sl_L_int) ?_
        refine Ol.p addi ?_
        refine Ol.p gti ?_
        refine Ol.p mvb ?_
        refine Ol.gp h12 mvi ?_
        refine Ol.gp h12 gti ?_
        refine Ol.p (pkFb h12) ?_
        refine Ol.p mvb ?_
        refine Ol.gp h16 mvi ?_
        refine Ol.gp h16 lsi ?_
        refine Ol.p (pkFb h16) ?_
        refine Ol.nil ?_
        refine ⟨decide (fuel < 0), (fun h => ?_), ⟨rfl, rfl, rfl, rfl, rfl, rfl, rfl, trivial⟩, rfl⟩
        simp only [decide_eq_false_iff_not] at h12 h16 h
        have := hN1 (by omega)
        omega
  rintro σ' _ ⟨b44, hb44, hs', rfl⟩
  refine Cd.has hs' ?_
  refine Cd.cond rfl (fun h => ?_) (fun h => ?_)
  · refine Cd.seq ?_
    refine Cd.region ?_
    refine Ol.p asb ?_
    refine Ol.nil ?_
    exact Cd.ret ⟨.bool _, ret1 rfl rfl, [], Keep.nil, rfl, rfl⟩
  obtain ⟨hsz, hal7, hml7, hnl7, hf0, hf2⟩ := hb44 h
  clear hs' h hb44
  obtain ⟨F, rfl⟩ := Int.eq_ofNat_of_zero_le hf0
  have hbi : BlksIn w w.heap.size f.bA f.blocks := BlksIn.of8 hf hsz
  have hpl : f.params.length < 2 ^ 43 := by
    have h0 : f.params.length + blocksSz f.blocks ≤ 700 := hsz
    omega
  have h43 : ∀ b ∈ f.blocks, ∀ i ∈ b.ins, i.args.length < 2 ^ 43 := fun b hb i hi => by
    have := s8_alen hsz b hb i hi
    omega
  obtain ⟨K, hK⟩ : ∃ K, K = pickF less (F + 1) := ⟨_, rfl⟩
  have hKF : K ≤ F := by
    have := pickF_lt (x := less) (n := F + 1) (by omega)
    omega
  refine Cd.skip ?_
  refine Cd.seq ?_
  by_cases hok : okB f args mem
  rotate_left
  · skip
    refine Cd.region ?_
    refine Ol.p (ldw (cs := f.cells.toArray) ag_api_Func (i := 0) rfl rfl) ?_
    refine Ol.p mvs ?_
    refine Ol.p mvs ?_
    refine Ol.p mvs ?_
    refine Ol.p mvi ?_
    refine Ol.x (sp_call (vs := [f.val, .slice aA args.length aC, .slice mA mem.length mC, .slice nA (ans).length nC, .int .i64 ((F : Int))]) (R := GoR f args mem (ans) ((F : Int))) en_run_Go (fun M w' hh => run_Go_ct (args := args) (mem := mem) (ans := ans) (hf.now hh) hfit hpl (hbi.now hh) h43 (ha.now hh) (hm.now hh) (hn.now hh) (by omega) (by omega))) ?_
    rintro _ _ ⟨R1, rfl, hR1⟩
    obtain ⟨rfl, rfl⟩ := hR1.no hok
    refine Ol.p mvt ?_
    refine Ol.p extv ?_
    refine Ol.p extv ?_
    refine Ol.x (alc zr_run_Result) ?_
    rintro _ _ ⟨g13, rfl, rfl⟩
    refine Ol.s (stw (vs := #[.int .i64 0, .int .i64 0, .slice none 0 0, .slice none 0 0, .int .i64 0]) sz_run_Result rfl (by intro u hu; simp at hu; rcases hu with rfl | rfl | rfl <;> rfl) (i := 0) rfl rfl) ?_
    refine Ol.p asi ?_
    refine Ol.nil ?_
    refine Cd.seq ?_
    refine Cd.region ?_
    refine Ol.p mvi ?_
    refine Ol.p mvi ?_
    refine Ol.p addi ?_
    refine Ol.s (cl (v := .int .i64 (K : Int)) en_kit_Pick (fun M w' hh => hK ▸ kit_Pick_ct (n := F + 1) (by omega) (by omega))) ?_
    refine Ol.p asi ?_
    refine Ol.nil ?_
    refine Cd.seq ?_
    refine Cd.region ?_
    refine Ol.p (ldw (cs := f.cells.toArray) ag_api_Func (i := 1) rfl rfl) ?_
    refine Ol.p mvs ?_
    refine Ol.p mvs ?_
    refine Ol.p mvs ?_
    refine Ol.p mvi ?_
    refine Ol.x (sp_call (vs := [f.val, .slice aA args.length aC, .slice mA mem.length mC, .slice nA (ans).length nC, .int .i64 ((K : Int))]) (R := GoR f args mem (ans) ((K : Int))) en_run_Go (fun M w' hh => run_Go_ct (args := args) (mem := mem) (ans := ans) (hf.now hh) hfit hpl (hbi.now hh) h43 (ha.now hh) (hm.now hh) (hn.now hh) (by omega) (by omega))) ?_
    rintro _ _ ⟨R2, rfl, hR2⟩
    obtain ⟨rfl, rfl⟩ := hR2.no hok
    refine Ol.p mvt ?_
    refine Ol.p extv ?_
    refine Ol.p extv ?_
    refine Ol.x (alc zr_run_Result) ?_
    rintro _ _ ⟨g16, rfl, rfl⟩
    refine Ol.s (stw (vs := #[.int .i64 0, .int .i64 0, .slice none 0 0, .slice none 0 0, .int .i64 0]) sz_run_Result rfl (by intro u hu; simp at hu; rcases hu with rfl | rfl | rfl <;> rfl) (i := 0) rfl rfl) ?_
    refine Ol.p asi ?_
    refine Ol.nil ?_
    have h3 : (!decide ((2 : Int) = 2)) = false := rfl
    refine Cd.seq ?_
    refine Cd.seq ?_
    refine Cd.region ?_
    refine Ol.p mvi ?_
    refine Ol.p mvi ?_
    refine Ol.p nei ?_
    refine Ol.p mvb ?_
    refine Ol.gp h3 mvi ?_
    refine Ol.gp h3 nei ?_
    refine Ol.p (pkFb h3) ?_
    refine Ol.nil ?_
    refine Cd.cond rfl (fun h => ?_) (fun h => nomatch h)
    refine Cd.seq ?_
    refine Cd.region ?_
    refine Ol.p mvi ?_
    refine Ol.p mvi ?_
    refine Ol.p eqi ?_
    refine Ol.p asb ?_
    refine Ol.nil ?_
    exact Cd.ret ⟨.bool true, ret1 rfl rfl, [], Keep.nil, rfl, rfl⟩
  have hF : Fine f := Fine.of hok.1 h43
  obtain ⟨s0, hs0⟩ : ∃ s0, s0 = begS f args mem ans := ⟨_, rfl⟩
  have hr0 : Runs f s0 0 := by rw [hs0]; exact Runs.beg hF hok.2.2
  have hst0 : s0.steps = 0 := by rw [hs0]; rfl
  refine Cd.region ?_
  refine Ol.p (ldw (cs := f.cells.toArray) ag_api_Func (i := 0) rfl rfl) ?_
  refine Ol.p mvs ?_
  refine Ol.p mvs ?_
  refine Ol.p mvs ?_
  refine Ol.p mvi ?_
  refine Ol.x (sp_call (vs := [f.val, .slice aA args.length aC, .slice mA mem.length mC, .slice nA (ans).length nC, .int .i64 ((F : Int))]) (R := GoR f args mem (ans) ((F : Int))) en_run_Go (fun M w' hh => run_Go_ct (args := args) (mem := mem) (ans := ans) (hf.now hh) hfit hpl (hbi.now hh) h43 (ha.now hh) (hm.now hh) (hn.now hh) (by omega) (by omega))) ?_
  rintro _ _ ⟨R1, rfl, hR1⟩
  obtain ⟨z1, hz1, rfl, hp1⟩ := hR1.ok hok (by omega)
  replace hz1 : z1.of (goS f s0 F) := by rw [hs0]; exact hz1
  obtain ⟨hc1, ha1, hm1, hst1⟩ := RRes.lens hz1 (Runs.go hF F hr0)
  refine Ol.keep (L' := [blk g6 (.cells f.cells.toArray 43)] ++ z1.res) ⟨[], by rw [List.append_nil]; exact List.perm_append_comm.trans (List.Perm.append_left _ hp1)⟩ ?_
  refine Ol.p mvt ?_
  refine Ol.p extv ?_
  refine Ol.p extv ?_
  refine Ol.x (alc zr_run_Result) ?_
  rintro _ _ ⟨g13, rfl, rfl⟩
  refine Ol.s (stw (vs := z1.cells.toArray) sz_run_Result rfl z1.one (i := 0) rfl rfl) ?_
  refine Ol.p asi ?_
  refine Ol.nil ?_
  refine Cd.seq ?_
  refine Cd.region ?_
  refine Ol.p mvi ?_
  refine Ol.p mvi ?_
  refine Ol.p addi ?_
  refine Ol.s (cl (v := .int .i64 (K : Int)) en_kit_Pick (fun M w' hh => hK ▸ kit_Pick_ct (n := F + 1) (by omega) (by omega))) ?_
  refine Ol.p asi ?_
  refine Ol.nil ?_
  refine Cd.seq ?_
  refine Cd.region ?_
  refine Ol.p (ldw (cs := f.cells.toArray) ag_api_Func (i := 1) rfl rfl) ?_
  refine Ol.p mvs ?_
  refine Ol.p mvs ?_
  refine Ol.p mvs ?_
  refine Ol.p mvi ?_
  refine Ol.x (sp_call (vs := [f.val, .slice aA args.length aC, .slice mA mem.length mC, .slice nA (ans).length nC, .int .i64 ((K : Int))]) (R := GoR f args mem (ans) ((K : Int))) en_run_Go (fun M w' hh => run_Go_ct (args := args) (mem := mem) (ans := ans) (hf.now hh) hfit hpl (hbi.now hh) h43 (ha.now hh) (hm.now hh) (hn.now hh) (by omega) (by omega))) ?_
  rintro _ _ ⟨R2, rfl, hR2⟩
  obtain ⟨z2, hz2, rfl, hp2⟩ := hR2.ok hok (by omega)
  replace hz2 : z2.of (goS f s0 K) := by rw [hs0]; exact hz2
  obtain ⟨hc2, ha2, hm2, hst2⟩ := RRes.lens hz2 (Runs.go hF K hr0)
  obtain ⟨T2, hT2⟩ : ∃ T, T = z2.res ++ z1.res := ⟨_, rfl⟩
  refine Ol.keep (L' := blk g13 (.cells z1.cells.toArray 67) :: blk g6 (.cells f.cells.toArray 43) :: T2) ⟨[], perm_count fun _ x => by
    have := hp2.count_eq x
    rw [hT2]
    simp only [List.set_cons_zero, List.count_append, List.count_cons, List.count_nil, List.cons_append, List.nil_append, List.append_nil]; omega⟩ ?_
  refine Ol.p mvt ?_
  refine Ol.p extv ?_
  refine Ol.p extv ?_
  refine Ol.x (alc zr_run_Result) ?_
  rintro _ _ ⟨g16, rfl, rfl⟩
  refine Ol.s (stw (vs := z2.cells.toArray) sz_run_Result rfl z2.one (i := 0) rfl rfl) ?_
  refine Ol.p asi ?_
  refine Ol.nil ?_
  have h3 : (!decide ((0 : Int) = 0)) = false := rfl
  refine Cd.seq ?_
  refine Cd.seq ?_
  refine Cd.region ?_
  refine Ol.p mvi ?_
  refine Ol.p mvi ?_
  refine Ol.p nei ?_
  refine Ol.p mvb ?_
  refine Ol.gp h3 mvi ?_
  refine Ol.gp h3 nei ?_
  refine Ol.p (pkFb h3) ?_
  refine Ol.nil ?_
  refine Cd.cond rfl (fun h => nomatch h) (fun h => ?_)
  refine Cd.skip ?_
  -- what less fuel comes to
  have hB := Runs.told hF K hr0
  have hA := Runs.told hF (F - K) (Runs.go hF K hr0)
  have hAe : goS f (goS f s0 K) (F - K) = goS f s0 F := by rw [← goS_add, show K + (F - K) = F by omega]
  rw [hAe] at hA
  have hA0 := Runs.told hF F hr0
  have e1 : z1.steps = (goS f s0 F).steps := hz1.2.2.2.1
  have e2 : z2.steps = (goS f s0 K).steps := hz2.2.2.2.1
  obtain ⟨cx, hcx⟩ := hA.2.2.2.1
  have hpre : z2.recs.map CRec.two = (z1.recs.take z2.recs.length).map CRec.two := by
    have e3 : z2.recs.length = (z2.recs.map CRec.two).length := by simp
    rw [List.map_take, hz1.2.2.2.2, hcx, ← hz2.2.2.2.2, e3, List.take_left]
  have hcle : z2.recs.length ≤ z1.recs.length := by
    have := congrArg List.length hcx
    rw [← hz1.2.2.2.2, ← hz2.2.2.2.2] at this
    simp at this
    omega
  have hE : z2.e ≠ 0 → goS f s0 F = goS f s0 K := fun h => by
    rw [← hAe]; exact goS_end (by rw [← hz2.1]; exact h) _
  have hS1 : z1.steps < K → goS f s0 F = goS f s0 K := fun h => hE fun h0 => by
    have := hB.2.2.1 (by rw [← hz2.1]; exact h0)
    omega
  have hS2 : K ≤ z1.steps → z2.steps = K := fun h => by
    by_cases h0 : z2.e = 0
    · have := hB.2.2.1 (by rw [← hz2.1]; exact h0)
      omega
    · have := hE h0
      rw [this] at e1
      omega
  have h5 : decide ((z1.steps : Int) < (z2.steps : Int)) = false := by rw [decide_eq_false_iff_not]; omega
  have h11 : decide ((F : Int) < (z1.steps : Int)) = false := by rw [decide_eq_false_iff_not]; omega
  have h20 : decide ((z1.recs.length : Int) < (z2.recs.length : Int)) = false := by rw [decide_eq_false_iff_not]; omega
  have h32 : (!decide (z2.recs.map CRec.two = (z1.recs.take z2.recs.length).map CRec.two)) = false := by rw [decide_eq_true hpre]; rfl
  have hin2 : ∀ r ∈ z2.res, r ∈ blk g16 (.cells z2.cells.toArray 67) :: blk g13 (.cells z1.cells.toArray 67) :: blk g6 (.cells f.cells.toArray 43) :: T2 := fun r hr => by rw [hT2]; simp [hr]
  have hin1 : ∀ r ∈ z1.res, r ∈ blk g16 (.cells z2.cells.toArray 67) :: blk g13 (.cells z1.cells.toArray 67) :: blk g6 (.cells f.cells.toArray 43) :: T2 := fun r hr => by rw [hT2]; simp [hr]
  obtain ⟨j1, hj1⟩ := List.mem_iff_getElem?.1 (hin1 _ (List.mem_cons_self ..))
  refine Cd.cap (i := j1) hj1 fun hcap => ?_
  refine Cd.seq ?_
  refine Cd.mid (fun σ' L' => Has σ' [(1, .slice aA args.length aC), (2, .slice mA mem.length mC), (3, .slice nA ans.length nC), (4, .int .i64 (F : Int)), (6, .pointer (some ⟨g6, 0, none⟩)), (13, .pointer (some ⟨g13, 0, none⟩)), (16, .pointer (some ⟨g16, 0, none⟩)), (145, .bool false)] ∧ blk g16 (.cells z2.cells.toArray 67) :: blk g13 (.cells z1.cells.toArray 67) :: blk g6 (.cells f.cells.toArray 43) :: T2 = L') ?_ ?_
  · cases h36 : !decide (z2.e = 0) with
    | true =>
      have hh0 : z2.e ≠ 0 := by simpa using h36
      have h44 : (!decide (z2.e = z1.e)) = false := by rw [hz2.1, hz1.1, hE hh0]; simp
      cases h49 : decide ((z1.steps : Int) < (K : Int)) with
      | true =>
        have hlt : z1.steps < K := by have := of_decide_eq_true h49; omega
        have h57 : (!decide ((z2.steps : Int) = (z1.steps : Int))) = false := by rw [e1, e2, hS1 hlt]; simp
        have h62 : decide ((K : Int) ≤ (z1.steps : Int)) = false := by rw [decide_eq_false_iff_not]; omega
        refine Cd.draw mixed 69 (exIs (fun opNo => match opNo with | 29 => some (.bool (decide (z2.recs.map CRec.two = (z1.recs.take z2.recs.length).map CRec.two))) | _ => none)) (fun _ => []) (by kernel_rfl) exIs_in (fun u hu => ?_)
        refine Wk.p (fdl fd_run_Result_4) ?_
        refine Wk.p (ld (v := .int .i64 z2.steps) one_int (Rd.blk (i := 0) rfl rfl)) ?_
        refine Wk.p (fdl fd_run_Result_4) ?_
        refine Wk.p (ld (v := .int .i64 z1.steps) one_int (Rd.blk (i := 1) rfl rfl)) ?_
        refine Wk.p gti ?_
        refine Wk.p mvb ?_
        refine Wk.gp h5 (fdl fd_run_Result_4) ?_
        refine Wk.gp h5 (ld (v := .int .i64 z1.steps) one_int (Rd.blk (i := 1) rfl rfl)) ?_
        refine Wk.gp h5 mvi ?_
        refine Wk.gp h5 gti ?_
        refine Wk.p (pkFb h5) ?_
        refine Wk.p mvb ?_
        refine Wk.gp h11 (fdl fd_run_Result_2) ?_
        refine Wk.gp h11 (ld (v := .slice z2.cA z2.recs.length z2.cC) one_L_api_Call (Rd.blk (i := 0) rfl rfl)) ?_
        refine Wk.gp h11 (lens sl_L_api_Call) ?_
        refine Wk.gp h11 (fdl fd_run_Result_2) ?_
        refine Wk.gp h11 (ld (v := .slice z1.cA z1.recs.length z1.cC) one_L_api_Call (Rd.blk (i := 1) rfl rfl)) ?_
        refine Wk.gp h11 (lens sl_L_api_Call) ?_
        refine Wk.gp h11 gti ?_
        refine Wk.p (pkFb h11) ?_
        refine Wk.p mvb ?_
        refine Wk.gp h20 (fdl fd_run_Result_2) ?_
        refine Wk.gp h20 (ld (v := .slice z2.cA z2.recs.length z2.cC) one_L_api_Call (Rd.blk (i := 0) rfl rfl)) ?_
        refine Wk.gp h20 (fdl fd_run_Result_2) ?_
        refine Wk.gp h20 (ld (v := .slice z1.cA z1.recs.length z1.cC) one_L_api_Call (Rd.blk (i := 1) rfl rfl)) ?_
        refine Wk.gp h20 (fdl fd_run_Result_2) ?_
        refine Wk.gp h20 (ld (v := .slice z2.cA z2.recs.length z2.cC) one_L_api_Call (Rd.blk (i := 0) rfl rfl)) ?_
        refine Wk.gp h20 (lens sl_L_api_Call) ?_
        refine Wk.gp h20 (slh sl_L_api_Call (A := z1.cA) (n := z1.recs.length) (c := z1.cC) (h := z2.recs.length) (by omega)) ?_
        refine Wk.gdk hu h20 (sp_call en_law08_sameCalls (fun M w' hh => sameCalls_pre (recsIn_own hh hin2 (by omega) ha2) (recsIn_own hh hin1 (by omega) ha1) hcle)) ?_
        refine Wk.gp h20 noti ?_
        refine Wk.p (pkFb h20) ?_
        refine Wk.p mvb ?_
        refine Wk.gp h32 (fdl fd_run_Result_0) ?_
        refine Wk.gp h32 (ld (v := .int .i64 z2.e) one_api_EndKind (Rd.blk (i := 0) rfl rfl)) ?_
        refine Wk.gp h32 nei ?_
        refine Wk.gp h32 mvb ?_
        refine Wk.gp h36 (fdl fd_run_Result_0) ?_
        refine Wk.gp h36 (ld (v := .int .i64 z2.e) one_api_EndKind (Rd.blk (i := 0) rfl rfl)) ?_
        refine Wk.gp h36 (fdl fd_run_Result_0) ?_
        refine Wk.gp h36 (ld (v := .int .i64 z1.e) one_api_EndKind (Rd.blk (i := 1) rfl rfl)) ?_
        refine Wk.gp h36 nei ?_
        refine Wk.gp h32 (pkTb h36) ?_
        refine Wk.p (pkFb h32) ?_
        refine Wk.p mvb ?_
        refine Wk.gp h44 (fdl fd_run_Result_4) ?_
        refine Wk.gp h44 (ld (v := .int .i64 z1.steps) one_int (Rd.blk (i := 1) rfl rfl)) ?_
        refine Wk.gp h44 mvi ?_
        refine Wk.gp h44 lsi ?_
        refine Wk.gp h44 mvb ?_
        refine Wk.gp h49 (fdl fd_run_Result_4) ?_
        refine Wk.gp h49 (ld (v := .int .i64 z2.steps) one_int (Rd.blk (i := 0) rfl rfl)) ?_
        refine Wk.gp h49 (fdl fd_run_Result_4) ?_
        refine Wk.gp h49 (ld (v := .int .i64 z1.steps) one_int (Rd.blk (i := 1) rfl rfl)) ?_
        refine Wk.gp h49 nei ?_
        refine Wk.gp h44 (pkTb h49) ?_
        refine Wk.p (pkFb h44) ?_
        refine Wk.p mvb ?_
        refine Wk.gp h57 (fdl fd_run_Result_4) ?_
        refine Wk.gp h57 (ld (v := .int .i64 z1.steps) one_int (Rd.blk (i := 1) rfl rfl)) ?_
        refine Wk.gp h57 mvi ?_
        refine Wk.gp h57 gei ?_
        refine Wk.gp h57 mvb ?_
        refine Wk.gn h62 ?_
        refine Wk.gn h62 ?_
        refine Wk.gn h62 ?_
        refine Wk.gn h62 ?_
        refine Wk.gp h57 (pkFb h62) ?_
        refine Wk.p (pkFb h57) ?_
        refine Wk.nil ?_
        rw [needs_exIs hu rfl]
        refine Ol.nil ?_
        exact ⟨⟨rfl, rfl, rfl, rfl, rfl, rfl, rfl, rfl, trivial⟩, rfl⟩
      | false =>
        have hge : K ≤ z1.steps := by have := of_decide_eq_false h49; omega
        have h57 : false = false := rfl
        have h62 : decide ((K : Int) ≤ (z1.steps : Int)) = true := by rw [decide_eq_true_iff]; omega
        refine Cd.draw mixed 69 (exIs (fun opNo => match opNo with | 29 => some (.bool (decide (z2.recs.map CRec.two = (z1.recs.take z2.recs.length).map CRec.two))) | _ => none)) (fun _ => []) (by kernel_rfl) exIs_in (fun u hu => ?_)
        refine Wk.p (fdl fd_run_Result_4) ?_
        refine Wk.p (ld (v := .int .i64 z2.steps) one_int (Rd.blk (i := 0) rfl rfl)) ?_
        refine Wk.p (fdl fd_run_Result_4) ?_
        refine Wk.p (ld (v := .int .i64 z1.steps) one_int (Rd.blk (i := 1) rfl rfl)) ?_
        refine Wk.p gti ?_
        refine Wk.p mvb ?_
        refine Wk.gp h5 (fdl fd_run_Result_4) ?_
        refine Wk.gp h5 (ld (v := .int .i64 z1.steps) one_int (Rd.blk (i := 1) rfl rfl)) ?_
        refine Wk.gp h5 mvi ?_
        refine Wk.gp h5 gti ?_
        refine Wk.p (pkFb h5) ?_
        refine Wk.p mvb ?_
        refine Wk.gp h11 (fdl fd_run_Result_2) ?_
        refine Wk.gp h11 (ld (v := .slice z2.cA z2.recs.length z2.cC) one_L_api_Call (Rd.blk (i := 0) rfl rfl)) ?_
        refine Wk.gp h11 (lens sl_L_api_Call) ?_
        refine Wk.gp h11 (fdl fd_run_Result_2) ?_
        refine Wk.gp h11 (ld (v := .slice z1.cA z1.recs.length z1.cC) one_L_api_Call (Rd.blk (i := 1) rfl rfl)) ?_
        refine Wk.gp h11 (lens sl_L_api_Call) ?_
        refine Wk.gp h11 gti ?_
        refine Wk.p (pkFb h11) ?_
        refine Wk.p mvb ?_
        refine Wk.gp h20 (fdl fd_run_Result_2) ?_
        refine Wk.gp h20 (ld (v := .slice z2.cA z2.recs.length z2.cC) one_L_api_Call (Rd.blk (i := 0) rfl rfl)) ?_
        refine Wk.gp h20 (fdl fd_run_Result_2) ?_
        refine Wk.gp h20 (ld (v := .slice z1.cA z1.recs.length z1.cC) one_L_api_Call (Rd.blk (i := 1) rfl rfl)) ?_
        refine Wk.gp h20 (fdl fd_run_Result_2) ?_
        refine Wk.gp h20 (ld (v := .slice z2.cA z2.recs.length z2.cC) one_L_api_Call (Rd.blk (i := 0) rfl rfl)) ?_
        refine Wk.gp h20 (lens sl_L_api_Call) ?_
        refine Wk.gp h20 (slh sl_L_api_Call (A := z1.cA) (n := z1.recs.length) (c := z1.cC) (h := z2.recs.length) (by omega)) ?_
        refine Wk.gdk hu h20 (sp_call en_law08_sameCalls (fun M w' hh => sameCalls_pre (recsIn_own hh hin2 (by omega) ha2) (recsIn_own hh hin1 (by omega) ha1) hcle)) ?_
        refine Wk.gp h20 noti ?_
        refine Wk.p (pkFb h20) ?_
        refine Wk.p mvb ?_
        refine Wk.gp h32 (fdl fd_run_Result_0) ?_
        refine Wk.gp h32 (ld (v := .int .i64 z2.e) one_api_EndKind (Rd.blk (i := 0) rfl rfl)) ?_
        refine Wk.gp h32 nei ?_
        refine Wk.gp h32 mvb ?_
        refine Wk.gp h36 (fdl fd_run_Result_0) ?_
        refine Wk.gp h36 (ld (v := .int .i64 z2.e) one_api_EndKind (Rd.blk (i := 0) rfl rfl)) ?_
        refine Wk.gp h36 (fdl fd_run_Result_0) ?_
        refine Wk.gp h36 (ld (v := .int .i64 z1.e) one_api_EndKind (Rd.blk (i := 1) rfl rfl)) ?_
        refine Wk.gp h36 nei ?_
        refine Wk.gp h32 (pkTb h36) ?_
        refine Wk.p (pkFb h32) ?_
        refine Wk.p mvb ?_
        refine Wk.gp h44 (fdl fd_run_Result_4) ?_
        refine Wk.gp h44 (ld (v := .int .i64 z1.steps) one_int (Rd.blk (i := 1) rfl rfl)) ?_
        refine Wk.gp h44 mvi ?_
        refine Wk.gp h44 lsi ?_
        refine Wk.gp h44 mvb ?_
        refine Wk.gn h49 ?_
        refine Wk.gn h49 ?_
        refine Wk.gn h49 ?_
        refine Wk.gn h49 ?_
        refine Wk.gn h49 ?_
        refine Wk.gp h44 (pkFb h49) ?_
        refine Wk.p (pkFb h44) ?_
        refine Wk.p mvb ?_
        refine Wk.gp h57 (fdl fd_run_Result_4) ?_
        refine Wk.gp h57 (ld (v := .int .i64 z1.steps) one_int (Rd.blk (i := 1) rfl rfl)) ?_
        refine Wk.gp h57 mvi ?_
        refine Wk.gp h57 gei ?_
        refine Wk.gp h57 mvb ?_
        refine Wk.gp h62 (fdl fd_run_Result_4) ?_
        refine Wk.gp h62 (ld (v := .int .i64 z2.steps) one_int (Rd.blk (i := 0) rfl rfl)) ?_
        refine Wk.gp h62 mvi ?_
        refine Wk.gp h62 nei ?_
        refine Wk.gp h57 (pkTb h62) ?_
        refine Wk.p (pkFb h57) ?_
        refine Wk.nil ?_
        rw [needs_exIs hu rfl]
        refine Ol.nil ?_
        exact ⟨⟨rfl, rfl, rfl, rfl, rfl, rfl, rfl, congrArg Value.bool (by rw [hS2 hge]; simp), trivial⟩, rfl⟩
    | false =>
      have h44 : false = false := rfl
      cases h49 : decide ((z1.steps : Int) < (K : Int)) with
      | true =>
        have hlt : z1.steps < K := by have := of_decide_eq_true h49; omega
        have h57 : (!decide ((z2.steps : Int) = (z1.steps : Int))) = false := by rw [e1, e2, hS1 hlt]; simp
        have h62 : decide ((K : Int) ≤ (z1.steps : Int)) = false := by rw [decide_eq_false_iff_not]; omega
        refine Cd.draw mixed 69 (exIs (fun opNo => match opNo with | 29 => some (.bool (decide (z2.recs.map CRec.two = (z1.recs.take z2.recs.length).map CRec.two))) | _ => none)) (fun _ => []) (by kernel_rfl) exIs_in (fun u hu => ?_)
        refine Wk.p (fdl fd_run_Result_4) ?_
        refine Wk.p (ld (v := .int .i64 z2.steps) one_int (Rd.blk (i := 0) rfl rfl)) ?_
        refine Wk.p (fdl fd_run_Result_4) ?_
        refine Wk.p (ld (v := .int .i64 z1.steps) one_int (Rd.blk (i := 1) rfl rfl)) ?_
        refine Wk.p gti ?_
        refine Wk.p mvb ?_
        refine Wk.gp h5 (fdl fd_run_Result_4) ?_
        refine Wk.gp h5 (ld (v := .int .i64 z1.steps) one_int (Rd.blk (i := 1) rfl rfl)) ?_
        refine Wk.gp h5 mvi ?_
        refine Wk.gp h5 gti ?_
        refine Wk.p (pkFb h5) ?_
        refine Wk.p mvb ?_
        refine Wk.gp h11 (fdl fd_run_Result_2) ?_
        refine Wk.gp h11 (ld (v := .slice z2.cA z2.recs.length z2.cC) one_L_api_Call (Rd.blk (i := 0) rfl rfl)) ?_
        refine Wk.gp h11 (lens sl_L_api_Call) ?_
        refine Wk.gp h11 (fdl fd_run_Result_2) ?_
        refine Wk.gp h11 (ld (v := .slice z1.cA z1.recs.length z1.cC) one_L_api_Call (Rd.blk (i := 1) rfl rfl)) ?_
        refine Wk.gp h11 (lens sl_L_api_Call) ?_
        refine Wk.gp h11 gti ?_
        refine Wk.p (pkFb h11) ?_
        refine Wk.p mvb ?_
        refine Wk.gp h20 (fdl fd_run_Result_2) ?_
        refine Wk.gp h20 (ld (v := .slice z2.cA z2.recs.length z2.cC) one_L_api_Call (Rd.blk (i := 0) rfl rfl)) ?_
        refine Wk.gp h20 (fdl fd_run_Result_2) ?_
        refine Wk.gp h20 (ld (v := .slice z1.cA z1.recs.length z1.cC) one_L_api_Call (Rd.blk (i := 1) rfl rfl)) ?_
        refine Wk.gp h20 (fdl fd_run_Result_2) ?_
        refine Wk.gp h20 (ld (v := .slice z2.cA z2.recs.length z2.cC) one_L_api_Call (Rd.blk (i := 0) rfl rfl)) ?_
        refine Wk.gp h20 (lens sl_L_api_Call) ?_
        refine Wk.gp h20 (slh sl_L_api_Call (A := z1.cA) (n := z1.recs.length) (c := z1.cC) (h := z2.recs.length) (by omega)) ?_
        refine Wk.gdk hu h20 (sp_call en_law08_sameCalls (fun M w' hh => sameCalls_pre (recsIn_own hh hin2 (by omega) ha2) (recsIn_own hh hin1 (by omega) ha1) hcle)) ?_
        refine Wk.gp h20 noti ?_
        refine Wk.p (pkFb h20) ?_
        refine Wk.p mvb ?_
        refine Wk.gp h32 (fdl fd_run_Result_0) ?_
        refine Wk.gp h32 (ld (v := .int .i64 z2.e) one_api_EndKind (Rd.blk (i := 0) rfl rfl)) ?_
        refine Wk.gp h32 nei ?_
        refine Wk.gp h32 mvb ?_
        refine Wk.gn h36 ?_
        refine Wk.gn h36 ?_
        refine Wk.gn h36 ?_
        refine Wk.gn h36 ?_
        refine Wk.gn h36 ?_
        refine Wk.gp h32 (pkFb h36) ?_
        refine Wk.p (pkFb h32) ?_
        refine Wk.p mvb ?_
        refine Wk.gp h44 (fdl fd_run_Result_4) ?_
        refine Wk.gp h44 (ld (v := .int .i64 z1.steps) one_int (Rd.blk (i := 1) rfl rfl)) ?_
        refine Wk.gp h44 mvi ?_
        refine Wk.gp h44 lsi ?_
        refine Wk.gp h44 mvb ?_
        refine Wk.gp h49 (fdl fd_run_Result_4) ?_
        refine Wk.gp h49 (ld (v := .int .i64 z2.steps) one_int (Rd.blk (i := 0) rfl rfl)) ?_
        refine Wk.gp h49 (fdl fd_run_Result_4) ?_
        refine Wk.gp h49 (ld (v := .int .i64 z1.steps) one_int (Rd.blk (i := 1) rfl rfl)) ?_
        refine Wk.gp h49 nei ?_
        refine Wk.gp h44 (pkTb h49) ?_
        refine Wk.p (pkFb h44) ?_
        refine Wk.p mvb ?_
        refine Wk.gp h57 (fdl fd_run_Result_4) ?_
        refine Wk.gp h57 (ld (v := .int .i64 z1.steps) one_int (Rd.blk (i := 1) rfl rfl)) ?_
        refine Wk.gp h57 mvi ?_
        refine Wk.gp h57 gei ?_
        refine Wk.gp h57 mvb ?_
        refine Wk.gn h62 ?_
        refine Wk.gn h62 ?_
        refine Wk.gn h62 ?_
        refine Wk.gn h62 ?_
        refine Wk.gp h57 (pkFb h62) ?_
        refine Wk.p (pkFb h57) ?_
        refine Wk.nil ?_
        rw [needs_exIs hu rfl]
        refine Ol.nil ?_
        exact ⟨⟨rfl, rfl, rfl, rfl, rfl, rfl, rfl, rfl, trivial⟩, rfl⟩
      | false =>
        have hge : K ≤ z1.steps := by have := of_decide_eq_false h49; omega
        have h57 : false = false := rfl
        have h62 : decide ((K : Int) ≤ (z1.steps : Int)) = true := by rw [decide_eq_true_iff]; omega
        refine Cd.draw mixed 69 (exIs (fun opNo => match opNo with | 29 => some (.bool (decide (z2.recs.map CRec.two = (z1.recs.take z2.recs.length).map CRec.two))) | _ => none)) (fun _ => []) (by kernel_rfl) exIs_in (fun u hu => ?_)
        refine Wk.p (fdl fd_run_Result_4) ?_
        refine Wk.p (ld (v := .int .i64 z2.steps) one_int (Rd.blk (i := 0) rfl rfl)) ?_
        refine Wk.p (fdl fd_run_Result_4) ?_
        refine Wk.p (ld (v := .int .i64 z1.steps) one_int (Rd.blk (i := 1) rfl rfl)) ?_
        refine Wk.p gti ?_
        refine Wk.p mvb ?_
        refine Wk.gp h5 (fdl fd_run_Result_4) ?_
        refine Wk.gp h5 (ld (v := .int .i64 z1.steps) one_int (Rd.blk (i := 1) rfl rfl)) ?_
        refine Wk.gp h5 mvi ?_
        refine Wk.gp h5 gti ?_
        refine Wk.p (pkFb h5) ?_
        refine Wk.p mvb ?_
        refine Wk.gp h11 (fdl fd_run_Result_2) ?_
        refine Wk.gp h11 (ld (v := .slice z2.cA z2.recs.length z2.cC) one_L_api_Call (Rd.blk (i := 0) rfl rfl)) ?_
        refine Wk.gp h11 (lens sl_L_api_Call) ?_
        refine Wk.gp h11 (fdl fd_run_Result_2) ?_
        refine Wk.gp h11 (ld (v := .slice z1.cA z1.recs.length z1.cC) one_L_api_Call (Rd.blk (i := 1) rfl rfl)) ?_
        refine Wk.gp h11 (lens sl_L_api_Call) ?_
        refine Wk.gp h11 gti ?_
        refine Wk.p (pkFb h11) ?_
        refine Wk.p mvb ?_
        refine Wk.gp h20 (fdl fd_run_Result_2) ?_
        refine Wk.gp h20 (ld (v := .slice z2.cA z2.recs.length z2.cC) one_L_api_Call (Rd.blk (i := 0) rfl rfl)) ?_
        refine Wk.gp h20 (fdl fd_run_Result_2) ?_
        refine Wk.gp h20 (ld (v := .slice z1.cA z1.recs.length z1.cC) one_L_api_Call (Rd.blk (i := 1) rfl rfl)) ?_
        refine Wk.gp h20 (fdl fd_run_Result_2) ?_
        refine Wk.gp h20 (ld (v := .slice z2.cA z2.recs.length z2.cC) one_L_api_Call (Rd.blk (i := 0) rfl rfl)) ?_
        refine Wk.gp h20 (lens sl_L_api_Call) ?_
        refine Wk.gp h20 (slh sl_L_api_Call (A := z1.cA) (n := z1.recs.length) (c := z1.cC) (h := z2.recs.length) (by omega)) ?_
        refine Wk.gdk hu h20 (sp_call en_law08_sameCalls (fun M w' hh => sameCalls_pre (recsIn_own hh hin2 (by omega) ha2) (recsIn_own hh hin1 (by omega) ha1) hcle)) ?_
        refine Wk.gp h20 noti ?_
        refine Wk.p (pkFb h20) ?_
        refine Wk.p mvb ?_
        refine Wk.gp h32 (fdl fd_run_Result_0) ?_
        refine Wk.gp h32 (ld (v := .int .i64 z2.e) one_api_EndKind (Rd.blk (i := 0) rfl rfl)) ?_
        refine Wk.gp h32 nei ?_
        refine Wk.gp h32 mvb ?_
        refine Wk.gn h36 ?_
        refine Wk.gn h36 ?_
        refine Wk.gn h36 ?_
        refine Wk.gn h36 ?_
        refine Wk.gn h36 ?_
        refine Wk.gp h32 (pkFb h36) ?_
        refine Wk.p (pkFb h32) ?_
        refine Wk.p mvb ?_
        refine Wk.gp h44 (fdl fd_run_Result_4) ?_
        refine Wk.gp h44 (ld (v := .int .i64 z1.steps) one_int (Rd.blk (i := 1) rfl rfl)) ?_
        refine Wk.gp h44 mvi ?_
        refine Wk.gp h44 lsi ?_
        refine Wk.gp h44 mvb ?_
        refine Wk.gn h49 ?_
        refine Wk.gn h49 ?_
        refine Wk.gn h49 ?_
        refine Wk.gn h49 ?_
        refine Wk.gn h49 ?_
        refine Wk.gp h44 (pkFb h49) ?_
        refine Wk.p (pkFb h44) ?_
        refine Wk.p mvb ?_
        refine Wk.gp h57 (fdl fd_run_Result_4) ?_
        refine Wk.gp h57 (ld (v := .int .i64 z1.steps) one_int (Rd.blk (i := 1) rfl rfl)) ?_
        refine Wk.gp h57 mvi ?_
        refine Wk.gp h57 gei ?_
        refine Wk.gp h57 mvb ?_
        refine Wk.gp h62 (fdl fd_run_Result_4) ?_
        refine Wk.gp h62 (ld (v := .int .i64 z2.steps) one_int (Rd.blk (i := 0) rfl rfl)) ?_
        refine Wk.gp h62 mvi ?_
        refine Wk.gp h62 nei ?_
        refine Wk.gp h57 (pkTb h62) ?_
        refine Wk.p (pkFb h57) ?_
        refine Wk.nil ?_
        rw [needs_exIs hu rfl]
        refine Ol.nil ?_
        exact ⟨⟨rfl, rfl, rfl, rfl, rfl, rfl, rfl, congrArg Value.bool (by rw [hS2 hge]; simp), trivial⟩, rfl⟩
  rintro σ' _ ⟨hs', rfl⟩
  refine Cd.has hs' ?_
  refine Cd.cond rfl (fun h => nomatch h) (fun h => ?_)
  clear hs'
  refine Cd.skip ?_
  refine Cd.seq ?_
  refine Cd.region ?_
  refine Ol.p (ldw (cs := f.cells.toArray) ag_api_Func (i := 2) rfl rfl) ?_
  refine Ol.p mvs ?_
  refine Ol.p mvs ?_
  refine Ol.p mvs ?_
  refine Ol.p (fdl fd_run_Result_4) ?_
  refine Ol.p (ld (v := .int .i64 z1.steps) one_int (Rd.blk (i := 1) rfl rfl)) ?_
  refine Ol.x (sp_call (vs := [f.val, .slice aA args.length aC, .slice mA mem.length mC, .slice nA (ans).length nC, .int .i64 ((z1.steps : Int))]) (R := GoR f args mem (ans) ((z1.steps : Int))) en_run_Go (fun M w' hh => run_Go_ct (args := args) (mem := mem) (ans := ans) (hf.now hh) hfit hpl (hbi.now hh) h43 (ha.now hh) (hm.now hh) (hn.now hh) (by omega) (by omega))) ?_
  rintro _ _ ⟨R3, rfl, hR3⟩
  obtain ⟨z3, hz3, rfl, hp3⟩ := hR3.ok hok (by omega)
  replace hz3 : z3.of (goS f s0 F) := by
    have h := hA0.2.2.2.2
    rw [hst0, Nat.sub_zero, ← e1] at h
    rw [← h, hs0]; exact hz3
  obtain ⟨hc3, ha3, hm3, hst3⟩ := RRes.lens hz3 (Runs.go hF F hr0)
  obtain ⟨T3, hT3⟩ : ∃ T, T = z3.res ++ z1.res := ⟨_, rfl⟩
  refine Ol.keep (L' := blk g13 (.cells z1.cells.toArray 67) :: blk g6 (.cells f.cells.toArray 43) :: T3) ⟨blk g16 (.cells z2.cells.toArray 67) :: z2.res, perm_count fun _ x => by
    have := hp3.count_eq x
    rw [hT3, hT2]
    simp only [List.count_append, List.count_cons, List.count_nil, List.cons_append, List.nil_append, List.append_nil]; omega⟩ ?_
  refine Ol.p mvt ?_
  refine Ol.p extv ?_
  refine Ol.p extv ?_
  refine Ol.x (alc zr_run_Result) ?_
  rintro _ _ ⟨g18, rfl, rfl⟩
  refine Ol.s (stw (vs := z3.cells.toArray) sz_run_Result rfl z3.one (i := 0) rfl rfl) ?_
  refine Ol.p asi ?_
  refine Ol.nil ?_
  obtain ⟨an2, han2⟩ : ∃ an2, an2 = ans ++ [5, 6] := ⟨_, rfl⟩
  have em : 0 + ans.length + 2 = an2.length := by rw [han2]; simp
  have em2 : ([] ++ ints ans) ++ [Value.int .i64 5, .int .i64 6] = ints an2 := by rw [han2]; simp [ints]
  have em3 : an2.length = ans.length + 2 := by rw [han2]; simp
  have er : ∀ (A : Option Addr) (c : Nat), row (.slice A (0 + ans.length + 2) c) 3 1 (0 + ans.length + 2) (([] ++ ints ans) ++ [Value.int .i64 5, .int .i64 6]) = row (.slice A an2.length c) 3 1 an2.length (ints an2) := fun A c => by rw [em, em2]
  refine Cd.mid (fun σ' L' => ∃ (A160 : Option Addr) (c160 : Nat), Has σ' [(1, .slice aA args.length aC), (2, .slice mA mem.length mC), (3, .slice nA ans.length nC), (4, .int .i64 (F : Int)), (6, .pointer (some ⟨g6, 0, none⟩)), (13, .pointer (some ⟨g13, 0, none⟩)), (18, .pointer (some ⟨g18, 0, none⟩)), (20, .slice A160 an2.length c160)] ∧ row (.slice A160 an2.length c160) 3 1 an2.length (ints an2) :: blk g18 (.cells z3.cells.toArray 67) :: blk g13 (.cells z1.cells.toArray 67) :: blk g6 (.cells f.cells.toArray 43) :: T3 = L') ?_ ?_
  · skip
    refine Cd.region ?_
    refine Ol.x (bsv [] sl_L_int zr_int (by simp)) ?_
    rintro _ _ ⟨g156, rfl, rfl⟩
    refine Ol.p mvs ?_
    refine Ol.x (apn (i := 0) (n := 0) (xs := []) sl_L_int zr_int rfl (by decide) rfl (Src.slc hn) (ints_one _) (by unfold maxLen; omega) (by omega)) ?_
    rintro _ _ ⟨A158, c158, rfl, rfl⟩
    refine Ol.x (bsv [.int .i64 5, .int .i64 6] sl_L_int zr_int (by simp [Value.cells])) ?_
    rintro _ _ ⟨g159, rfl, rfl⟩
    refine Ol.x (apn (i := 1) (m := 2) sl_L_int zr_int rfl (by decide) rfl (Src.row (i := 0) rfl rfl) (by intro u hu; simp at hu; rcases hu with rfl | rfl <;> rfl) (by unfold maxLen; omega) (by omega)) ?_
    rintro _ _ ⟨A160, c160, rfl, rfl⟩
    refine Ol.p ass ?_
    refine Ol.keep (show Keep _ (row (.slice A160 an2.length c160) 3 1 an2.length (ints an2) :: blk g18 (.cells z3.cells.toArray 67) :: blk g13 (.cells z1.cells.toArray 67) :: blk g6 (.cells f.cells.toArray 43) :: T3) from er A160 c160 ▸ Keep.sub (.cons _ (List.Sublist.refl _))) ?_
    refine Ol.nil ?_
    exact ⟨A160, c160, ⟨rfl, rfl, rfl, rfl, rfl, rfl, rfl, congrArg (fun n => Value.slice A160 n c160) em, trivial⟩, rfl⟩
  rintro σ' _ ⟨A160, c160, hs', rfl⟩
  refine Cd.has hs' ?_
  clear hs' er
  refine Cd.seq ?_
  refine Cd.region ?_
  refine Ol.p (ldw (cs := f.cells.toArray) ag_api_Func (i := 3) rfl rfl) ?_
  refine Ol.p mvs ?_
  refine Ol.p mvs ?_
  refine Ol.p mvs ?_
  refine Ol.p mvi ?_
  refine Ol.x (sp_call (vs := [f.val, .slice aA args.length aC, .slice mA mem.length mC, .slice A160 (an2).length c160, .int .i64 ((F : Int))]) (R := GoR f args mem (an2) ((F : Int))) en_run_Go (fun M w' hh => run_Go_ct (args := args) (mem := mem) (ans := an2) (hf.now hh) hfit hpl (hbi.now hh) h43 (ha.now hh) (hm.now hh) (Reads.row hh (i := 0) rfl) (by omega) (by omega))) ?_
  rintro _ _ ⟨R4, rfl, hR4⟩
  obtain ⟨z4, hz4, rfl, hp4⟩ := hR4.ok hok (by omega)
  replace hz4 : z4.of (goS f (moreS s0 [5, 6]) F) := by rw [hs0]; rw [han2] at hz4; exact hz4
  have hr4 : Runs f (moreS s0 [5, 6]) 0 := by rw [hs0]; exact Runs.beg (ans := ans ++ [5, 6]) hF hok.2.2
  obtain ⟨hc4, ha4, hm4, hst4⟩ := RRes.lens hz4 (Runs.go hF F hr4)
  obtain ⟨T4, hT4⟩ : ∃ T, T = z4.res ++ (z3.res ++ z1.res) := ⟨_, rfl⟩
  refine Ol.keep (L' := blk g18 (.cells z3.cells.toArray 67) :: blk g13 (.cells z1.cells.toArray 67) :: blk g6 (.cells f.cells.toArray 43) :: T4) ⟨[row (.slice A160 an2.length c160) 3 1 an2.length (ints an2)], perm_count fun _ x => by
    have := hp4.count_eq x
    rw [hT4, hT3]
    simp only [List.count_append, List.count_cons, List.count_nil, List.cons_append, List.nil_append, List.append_nil]; omega⟩ ?_
  refine Ol.p mvt ?_
  refine Ol.p extv ?_
  refine Ol.p extv ?_
  refine Ol.x (alc zr_run_Result) ?_
  rintro _ _ ⟨g21, rfl, rfl⟩
  refine Ol.s (stw (vs := z4.cells.toArray) sz_run_Result rfl z4.one (i := 0) rfl rfl) ?_
  refine Ol.p asi ?_
  refine Ol.nil ?_
  have hi1 : ∀ r ∈ z1.res, r ∈ blk g21 (.cells z4.cells.toArray 67) :: blk g18 (.cells z3.cells.toArray 67) :: blk g13 (.cells z1.cells.toArray 67) :: blk g6 (.cells f.cells.toArray 43) :: T4 := fun r hr => by rw [hT4]; simp [hr]
  have hi3 : ∀ r ∈ z3.res, r ∈ blk g21 (.cells z4.cells.toArray 67) :: blk g18 (.cells z3.cells.toArray 67) :: blk g13 (.cells z1.cells.toArray 67) :: blk g6 (.cells f.cells.toArray 43) :: T4 := fun r hr => by rw [hT4]; simp [hr]
  have hi4 : ∀ r ∈ z4.res, r ∈ blk g21 (.cells z4.cells.toArray 67) :: blk g18 (.cells z3.cells.toArray 67) :: blk g13 (.cells z1.cells.toArray 67) :: blk g6 (.cells f.cells.toArray 43) :: T4 := fun r hr => by rw [hT4]; simp [hr]
  have q5 : (!decide (z3.e = z1.e)) = false := by rw [hz3.1, hz1.1]; simp
  have q12 : (!decide (z3.v = z1.v)) = false := by rw [hz3.2.1, hz1.2.1]; simp
  have q20 : (!decide (z3.recs.map CRec.two = z1.recs.map CRec.two)) = false := by rw [hz3.2.2.2.2, hz1.2.2.2.2]; simp
  have q27 : (!decide (z3.mem = z1.mem)) = false := by rw [hz3.2.2.1, hz1.2.2.1]; simp
  refine Cd.seq ?_
  refine Cd.seq ?_
  refine Cd.region ?_
  refine Ol.p (fdl fd_run_Result_0) ?_
  refine Ol.p (ld (v := .int .i64 z3.e) one_api_EndKind (Rd.blk (i := 1) rfl rfl)) ?_
  refine Ol.p (fdl fd_run_Result_0) ?_
  refine Ol.p (ld (v := .int .i64 z1.e) one_api_EndKind (Rd.blk (i := 2) rfl rfl)) ?_
  refine Ol.p nei ?_
  refine Ol.p mvb ?_
  refine Ol.gp q5 (fdl fd_run_Result_1) ?_
  refine Ol.gp q5 (ld (v := .int .i64 z3.v) one_int (Rd.blk (i := 1) rfl rfl)) ?_
  refine Ol.gp q5 (fdl fd_run_Result_1) ?_
  refine Ol.gp q5 (ld (v := .int .i64 z1.v) one_int (Rd.blk (i := 2) rfl rfl)) ?_
  refine Ol.gp q5 nei ?_
  refine Ol.p (pkFb q5) ?_
  refine Ol.p mvb ?_
  refine Ol.gp q12 (fdl fd_run_Result_2) ?_
  refine Ol.gp q12 (ld (v := .slice z3.cA z3.recs.length z3.cC) one_L_api_Call (Rd.blk (i := 1) rfl rfl)) ?_
  refine Ol.gp q12 (fdl fd_run_Result_2) ?_
  refine Ol.gp q12 (ld (v := .slice z1.cA z1.recs.length z1.cC) one_L_api_Call (Rd.blk (i := 2) rfl rfl)) ?_
  refine Ol.gs q12 (cl en_law08_sameCalls (fun M w' hh => law08_sameCalls_ct (recsIn_own hh hi3 (by omega) ha3) (recsIn_own hh hi1 (by omega) ha1))) ?_
  refine Ol.gp q12 noti ?_
  refine Ol.p (pkFb q12) ?_
  refine Ol.p mvb ?_
  refine Ol.gp q20 (fdl fd_run_Result_3) ?_
  refine Ol.gp q20 (ld (v := .slice z3.mA z3.mem.length z3.mC) one_L_int (Rd.blk (i := 1) rfl rfl)) ?_
  refine Ol.gp q20 (fdl fd_run_Result_3) ?_
  refine Ol.gp q20 (ld (v := .slice z1.mA z1.mem.length z1.mC) one_L_int (Rd.blk (i := 2) rfl rfl)) ?_
  refine Ol.gs q20 (cl en_kit_SameInts (fun M w' hh => kit_SameInts_ct (res_memIn hh hi3) (res_memIn hh hi1) (by omega) (by omega))) ?_
  refine Ol.gp q20 noti ?_
  refine Ol.p (pkFb q20) ?_
  refine Ol.nil ?_
  refine Cd.cond rfl (fun h => by rw [q27] at h; cases h) (fun h => ?_)
  refine Cd.skip ?_
  refine Cd.seq ?_
  cases h6 : decide ((ans.length : Int) < (z1.recs.length : Int)) with
  | true =>
    refine Cd.region ?_
    refine Ol.p (fdl fd_run_Result_2) ?_
    refine Ol.p (ld (v := .slice z1.cA z1.recs.length z1.cC) one_L_api_Call (Rd.blk (i := 2) rfl rfl)) ?_
    refine Ol.p (lens sl_L_api_Call) ?_
    refine Ol.p mvs ?_
    refine Ol.p (lens sl_L_int) ?_
    refine Ol.p gti ?_
    refine Ol.p mvb ?_
    refine Ol.gn h6 ?_
    refine Ol.gn h6 ?_
    refine Ol.gn h6 ?_
    refine Ol.gn h6 ?_
    refine Ol.gn h6 ?_
    refine Ol.gn h6 ?_
    refine Ol.gu ?_
    refine Ol.gu ?_
    refine Ol.gu ?_
    refine Ol.gu ?_
    refine Ol.gu ?_
    refine Ol.gn h6 ?_
    refine Ol.gn h6 ?_
    refine Ol.gu ?_
    refine Ol.gu ?_
    refine Ol.gu ?_
    refine Ol.gu ?_
    refine Ol.gu ?_
    refine Ol.gn h6 ?_
    refine Ol.gn h6 ?_
    refine Ol.gu ?_
    refine Ol.gu ?_
    refine Ol.gu ?_
    refine Ol.gu ?_
    refine Ol.gu ?_
    refine Ol.gn h6 ?_
    refine Ol.gn h6 ?_
    refine Ol.gu ?_
    refine Ol.gu ?_
    refine Ol.gu ?_
    refine Ol.gu ?_
    refine Ol.gu ?_
    refine Ol.gn h6 ?_
    refine Ol.p (pkTb h6) ?_
    refine Ol.p asb ?_
    refine Ol.nil ?_
    exact Cd.ret ⟨.bool true, ret1 rfl rfl, [], Keep.nil, rfl, rfl⟩
  | false =>
    have hle : (goS f s0 F).calls.length ≤ ans.length := by
      have h1 := of_decide_eq_false h6
      have h2 : z1.recs.length = (goS f s0 F).calls.length := by rw [← hz1.2.2.2.2, List.length_map]
      omega
    have hmore : goS f (moreS s0 [5, 6]) F = moreS (goS f s0 F) [5, 6] := goS_more hF F hr0 (by rw [hs0]; simp [begS]) hle
    rw [hmore] at hz4
    have q12 : decide (z4.e = z1.e) = true := by rw [hz4.1, hz1.1]; simp [moreS]
    have q19 : decide (z4.v = z1.v) = true := by rw [hz4.2.1, hz1.2.1]; simp [moreS]
    have q26 : decide (z4.recs.map CRec.two = z1.recs.map CRec.two) = true := by rw [hz4.2.2.2.2, hz1.2.2.2.2]; simp [moreS]
    have q33 : decide (z4.mem = z1.mem) = true := by rw [hz4.2.2.1, hz1.2.2.1]; simp [moreS]
    have q38 : decide ((z4.steps : Int) = (z1.steps : Int)) = true := by rw [hz4.2.2.2.1, hz1.2.2.2.1]; simp [moreS]
    refine Cd.region ?_
    refine Ol.p (fdl fd_run_Result_2) ?_
    refine Ol.p (ld (v := .slice z1.cA z1.recs.length z1.cC) one_L_api_Call (Rd.blk (i := 2) rfl rfl)) ?_
    refine Ol.p (lens sl_L_api_Call) ?_
    refine Ol.p mvs ?_
    refine Ol.p (lens sl_L_int) ?_
    refine Ol.p gti ?_
    refine Ol.p mvb ?_
    refine Ol.gp h6 (fdl fd_run_Result_0) ?_
    refine Ol.gp h6 (ld (v := .int .i64 z4.e) one_api_EndKind (Rd.blk (i := 0) rfl rfl)) ?_
    refine Ol.gp h6 (fdl fd_run_Result_0) ?_
    refine Ol.gp h6 (ld (v := .int .i64 z1.e) one_api_EndKind (Rd.blk (i := 2) rfl rfl)) ?_
    refine Ol.gp h6 eqi ?_
    refine Ol.gp h6 mvb ?_
    refine Ol.gp q12 (fdl fd_run_Result_1) ?_
    refine Ol.gp q12 (ld (v := .int .i64 z4.v) one_int (Rd.blk (i := 0) rfl rfl)) ?_
    refine Ol.gp q12 (fdl fd_run_Result_1) ?_
    refine Ol.gp q12 (ld (v := .int .i64 z1.v) one_int (Rd.blk (i := 2) rfl rfl)) ?_
    refine Ol.gp q12 eqi ?_
    refine Ol.gp h6 (pkTb q12) ?_
    refine Ol.gp h6 mvb ?_
    refine Ol.gp q19 (fdl fd_run_Result_2) ?_
    refine Ol.gp q19 (ld (v := .slice z4.cA z4.recs.length z4.cC) one_L_api_Call (Rd.blk (i := 0) rfl rfl)) ?_
    refine Ol.gp q19 (fdl fd_run_Result_2) ?_
    refine Ol.gp q19 (ld (v := .slice z1.cA z1.recs.length z1.cC) one_L_api_Call (Rd.blk (i := 2) rfl rfl)) ?_
    refine Ol.gs q19 (cl en_law08_sameCalls (fun M w' hh => law08_sameCalls_ct (recsIn_own hh hi4 (by omega) ha4) (recsIn_own hh hi1 (by omega) ha1))) ?_
    refine Ol.gp h6 (pkTb q19) ?_
    refine Ol.gp h6 mvb ?_
    refine Ol.gp q26 (fdl fd_run_Result_3) ?_
    refine Ol.gp q26 (ld (v := .slice z4.mA z4.mem.length z4.mC) one_L_int (Rd.blk (i := 0) rfl rfl)) ?_
    refine Ol.gp q26 (fdl fd_run_Result_3) ?_
    refine Ol.gp q26 (ld (v := .slice z1.mA z1.mem.length z1.mC) one_L_int (Rd.blk (i := 2) rfl rfl)) ?_
    refine Ol.gs q26 (cl en_kit_SameInts (fun M w' hh => kit_SameInts_ct (res_memIn hh hi4) (res_memIn hh hi1) (by omega) (by omega))) ?_
    refine Ol.gp h6 (pkTb q26) ?_
    refine Ol.gp h6 mvb ?_
    refine Ol.gp q33 (fdl fd_run_Result_4) ?_
    refine Ol.gp q33 (ld (v := .int .i64 z4.steps) one_int (Rd.blk (i := 0) rfl rfl)) ?_
    refine Ol.gp q33 (fdl fd_run_Result_4) ?_
    refine Ol.gp q33 (ld (v := .int .i64 z1.steps) one_int (Rd.blk (i := 2) rfl rfl)) ?_
    refine Ol.gp q33 eqi ?_
    refine Ol.gp h6 (pkTb q33) ?_
    refine Ol.p (pkFb h6) ?_
    refine Ol.p asb ?_
    refine Ol.nil ?_
    exact Cd.ret ⟨.bool _, ret1 rfl rfl, [], Keep.nil, congrArg Value.bool q38, rfl⟩
end
end Go.Proofs.Ytcojedoejpcolaa

