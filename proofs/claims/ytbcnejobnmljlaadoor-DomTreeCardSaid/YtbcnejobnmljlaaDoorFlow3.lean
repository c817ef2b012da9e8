/- The package flow: what is reached, walked. -/
import Derived.Test.YtbcnejobnmljlaaDoorFlow2
import Derived.Test.YtbcnejobnmljlaaDoorReach
namespace Go.Proofs.YtbcnejobnmljlaaDoor
set_option linter.unusedVariables false
open Go Go.RowKit
set_option maxRecDepth 100000

theorem enc_ne {s t : Nat} (hs : Sm s) (ht : Sm t) : decide (s = t) = true ↔ enc s = enc t := enc_iff hs ht
theorem intsN_get {l : List Nat} {k n : Nat} (h : l[k]? = some n) : (intsN l)[k]? = some (.int .i64 (n : Int)) := by simp [intsN, h]
theorem toAt_i64 {f : RFun} (hfit : Fit f) {b : RBlk} (hb : b ∈ f.blocks) : ∀ n ∈ toL b.term, I64 n := fun n hn => by
  unfold I64
  rcases toL_mem hn with e | e
  · exact hfit.term b hb _ (by simp [e])
  · exact hfit.term b hb _ (by simp [e])
section
set_option maxHeartbeats 2000000 in
theorem flow_Reached_ct {w : World} {f : RFun} {A1 A2 : Option Addr} {c1 c2 : Nat} {fr nt : List Int} (hT : Tabs w w.heap.size) (hf : FunAt w w.heap.size f) (hfit : Fit f) (hfr : Reads w w.heap.size 1 A1 fr.length (ints fr)) (hnt : Reads w w.heap.size 1 A2 nt.length (ints nt))
    (hi1 : ∀ n ∈ fr, I64 n) (hi2 : ∀ n ∈ nt, I64 n) (hl1 : fr.length < 2 ^ 60) (hl2 : nt.length < 2 ^ 60) :
    Ct Tryd.prog 28 #[f.val, .slice A1 fr.length c1, .slice A2 nt.length c2] w (NewL 3 1 (reachedF f.terms fr nt).length (intsN (reachedF f.terms fr nt))) := by
  have hbl := hfit.blen
  have htl : f.terms.length = f.blocks.length := by simp [RFun.terms]
  refine Ct.mk Tryd.func28 rfl rfl ?_
  refine Cd.seq ?_
  refine Cd.region ?_
  refine Ol.x bxg ?_
  rintro _ _ ⟨g3, rfl, rfl⟩
  refine Ol.p ass ?_
  refine Ol.nil ?_
  refine Cd.seq ?_
  refine Cd.seq ?_
  refine Cd.region ?_
  refine Ol.p (ldw ag_api_Func (i := 0) rfl rfl) ?_
  refine Ol.s (cl en_flow_Closed (fun M w' hh => flow_Closed_ct (hf.now hh) hfit)) ?_
  refine Ol.p noti ?_
  refine Ol.nil ?_
  refine Cd.cond rfl (fun h => ?_) (fun h => ?_)
  · have hcl : closed f.terms = false := by simpa using h
    have e : reachedF f.terms fr nt = [] := by unfold reachedF; rw [hcl]; rfl
    rw [e]
    refine Cd.seq ?_
    refine Cd.region ?_
    refine Ol.p ass ?_
    refine Ol.nil ?_
    refine Cd.nr 3 1 ?_
    refine Cd.ret ⟨.slice none 0 0, ret1 rfl rfl, _, .sub (.cons_cons _ (.cons _ .slnil)), none, 0, rfl, rfl⟩
  have hcl : closed f.terms = true := by simpa using h
  obtain ⟨hpos, hmax, hedge⟩ := closed_len hcl
  rw [htl] at hpos hmax
  obtain ⟨op, hop⟩ : ∃ op, op = lessL (allS f.blocks.length) nt := ⟨_, rfl⟩
  obtain ⟨s0, hs0⟩ : ∃ s0, s0 = op &&& ofL fr := ⟨_, rfl⟩
  have hopsm : Sm op := by rw [hop]; exact lessL_sm (allS_sm (by omega))
  have hopn : ∀ i, op.testBit i = true → i < f.blocks.length := fun i hi => by
    rw [hop, testBit_lessL, testBit_allS _ _ (by omega)] at hi
    simp only [Bool.and_eq_true, decide_eq_true_eq] at hi
    exact hi.1
  have hs0op : Sub s0 op := fun i hi => by
    rw [hs0, Nat.testBit_and] at hi
    simp only [Bool.and_eq_true] at hi
    exact hi.1
  have e : reachedF f.terms fr nt = listS (reachS f.terms op s0) := by unfold reachedF; rw [hcl, hs0, hop, htl]; rfl
  rw [e]
  refine Cd.skip ?_
  refine Cd.seq ?_
  refine Cd.region ?_
  refine Ol.x (alc zr_bits_Set) ?_
  rintro _ _ ⟨g7, rfl, rfl⟩
  refine Ol.nil ?_
  refine Cd.seq ?_
  refine Cd.seq ?_
  refine Cd.region ?_
  refine Ol.p (fdl fd_api_Func_1) ?_
  refine Ol.p (ld one_L_api_Block (Rd.blk (i := 1) rfl rfl)) ?_
  refine Ol.p (lens sl_L_api_Block) ?_
  refine Ol.p mvi ?_
  refine Ol.nil ?_
  refine Cd.block ?_
  refine Cd.loop (fun m σ L => ∃ k, m = f.blocks.length - k ∧ k ≤ f.blocks.length ∧ Has σ [(1, .slice A1 fr.length c1), (2, .slice A2 nt.length c2), (3, .pointer (some ⟨g3, 0, none⟩)), (7, .pointer (some ⟨g7, 0, none⟩)), (19, .int .i64 f.blocks.length), (20, .int .i64 k)] ∧ L = [blk g7 (.cells (enc (allS k)) 27), blk g3 (.cells f.cells.toArray 38)]) (n := f.blocks.length) ⟨0, rfl, Nat.zero_le _, ⟨rfl, rfl, rfl, rfl, rfl, rfl, trivial⟩, by rw [show allS 0 = 0 from rfl, enc0]; rfl⟩ ?_
  rintro _ σ L ⟨k, rfl, hk, hs, rfl⟩
  refine Cd.has hs ?_
  refine Cd.seq ?_
  refine Cd.region ?_
  refine Ol.p lsi ?_
  refine Ol.nil ?_
  refine Cd.seq ?_
  refine Cd.cond rfl (fun h => ?_) (fun h => ?_)
  · have hlt : k < f.blocks.length := by simpa using h
    refine Cd.skip ?_
    refine Cd.seq ?_
    refine Cd.block ?_
    refine Cd.seq ?_
    refine Cd.region ?_
    refine Ol.p mvi ?_
    refine Ol.p asi ?_
    refine Ol.nil ?_
    refine Cd.region ?_
    refine Ol.p (ldw ag_bits_Set (i := 0) rfl (enc_size _)) ?_
    refine Ol.p mvi ?_
    refine Ol.x (bsv [.int .i64 (k : Int)] sl_L_int zr_int (by simp [Value.cells])) ?_
    rintro _ _ ⟨g25, rfl, rfl⟩
    refine Ol.s (cl en_bits_Set_With (fun M w' hh => bits_Set_With_ct (s := allS k) (l := [(k : Int)]) (Reads.row hh (i := 0) rfl) (by intro n hn; simp at hn; subst hn; unfold I64; omega) (by simp))) ?_
    refine Ol.s (stw sz_bits_Set (enc_size _) (encF_one _) (i := 1) rfl (enc_size _)) ?_
    refine Ol.keep (.sub (.cons _ (List.Sublist.refl _))) ?_
    refine Ol.nil ?_
    refine Cd.region ?_
    refine Ol.p addi ?_
    refine Ol.p mvi ?_
    refine Ol.nil ?_
    refine ⟨f.blocks.length - (k + 1), by omega, k + 1, rfl, by omega, ⟨rfl, rfl, rfl, rfl, rfl, rfl, trivial⟩, ?_⟩
    rw [allS_succ]
    rfl
  have hge : k = f.blocks.length := by
    have : ¬ (k : Int) < f.blocks.length := by simpa using h
    omega
  subst hge
  refine Cd.exit (id := 0) ?_
  refine Cd.seq ?_
  refine Cd.region ?_
  refine Ol.p (ldw ag_bits_Set (i := 0) rfl (enc_size _)) ?_
  refine Ol.p mvs ?_
  refine Ol.s (cl en_bits_Set_Without (fun M w' hh => bits_Set_Without_ct (s := allS f.blocks.length) (l := nt) (hnt.now hh) hi2 (by omega))) ?_
  refine Ol.x (alc zr_bits_Set) ?_
  rintro _ _ ⟨g9, rfl, rfl⟩
  refine Ol.s (stw sz_bits_Set (enc_size _) (encF_one _) (i := 0) rfl rfl) ?_
  refine Ol.keep (.sub (.cons_cons _ (.cons _ (List.Sublist.refl _)))) ?_
  refine Ol.nil ?_
  rw [← hop]
  refine Cd.seq ?_
  refine Cd.draw mixed 5 (fun j => match j with | 2 => some (Is (.agg (enc (ofL fr)))) | 3 => some (Is (.agg (enc (op &&& ofL fr)))) | 4 => some (NewPv (.cells #[.int .u64 0, .int .u64 0, .int .u64 0, .int .u64 0, .int .u64 0, .int .u64 0, .int .u64 0, .int .u64 0, .int .u64 0, .int .u64 0, .int .u64 0, .int .u64 0, .int .u64 0, .int .u64 0, .int .u64 0, .int .u64 0] 27)) | _ => none) (fun _ => []) (by kernel_rfl) (by intro j V h; split at h <;> cases h; exact ⟨_, [], rfl, rfl⟩; exact ⟨_, [], rfl, rfl⟩; exact ⟨_, _, 0, rfl, rfl⟩) (fun u hu => ?_)
  refine Wk.p (ldw ag_bits_Set (i := 0) rfl (enc_size _)) ?_
  refine Wk.p mvs ?_
  refine Wk.x hu (sp_call en_bits_Of (fun M w' hh => bits_Of_ct (l := fr) (hfr.now hh) hi1 (by omega))) ?_
  rintro _ _ hu2 ⟨rfl, rfl⟩
  refine Wk.x hu (sp_call en_bits_Set_And (fun M w' hh => bits_Set_And_ct (s := op) (t := ofL fr))) ?_
  rintro _ _ hu3 ⟨rfl, rfl⟩
  refine Wk.x hu (NewP.adds (alc zr_bits_Set)) ?_
  rintro _ _ hu4 ⟨g10, rfl, rfl⟩
  refine Wk.nil ?_
  rw [needs_cons hu4, needs_cons hu3, needs_cons hu2, needs_none, ← hs0]
  refine Ol.s (stw sz_bits_Set (enc_size _) (encF_one _) (i := 0) rfl rfl) ?_
  refine Ol.nil ?_
  refine Cd.block ?_
  refine Cd.loop (fun m σ L => ∃ k g, m = 1025 - (listS (iterF (stepS f.terms op) k s0)).length ∧ k ≤ (listS (iterF (stepS f.terms op) k s0)).length ∧ Has σ [(3, .pointer (some ⟨g3, 0, none⟩)), (9, .pointer (some ⟨g9, 0, none⟩)), (10, .pointer (some ⟨g, 0, none⟩))] ∧ Sub (iterF (stepS f.terms op) k s0) op ∧ L = [blk g (.cells (enc (iterF (stepS f.terms op) k s0)) 27), blk g9 (.cells (enc op) 27), blk g3 (.cells f.cells.toArray 38)]) (n := 1025 - (listS s0).length) ⟨0, g10, rfl, Nat.zero_le _, ⟨rfl, rfl, rfl, trivial⟩, hs0op, rfl⟩ ?_
  rintro _ σ L ⟨k, g, rfl, hk, hs, hsub, rfl⟩
  obtain ⟨at_, hat⟩ : ∃ s, s = iterF (stepS f.terms op) k s0 := ⟨_, rfl⟩
  rw [← hat] at hk hsub ⊢
  have hatsm : Sm at_ := hsub.sm hopsm
  have hlen := listS_len_le at_
  refine Cd.has hs ?_
  refine Cd.mid (fun σ' L' => ∃ ga gn, Has σ' [(3, .pointer (some ⟨g3, 0, none⟩)), (9, .pointer (some ⟨g9, 0, none⟩)), (10, .pointer (some ⟨ga, 0, none⟩))] ∧ stepS f.terms op at_ ≠ at_ ∧ L' = [blk gn (.cells (enc (stepS f.terms op at_)) 27), blk ga (.cells (enc (stepS f.terms op at_)) 27), blk g9 (.cells (enc op) 27), blk g3 (.cells f.cells.toArray 38)]) ?_ ?_
  · refine Cd.block ?_
    refine Cd.seq ?_
    refine Cd.region ?_
    refine Ol.p (ldw ag_bits_Set (i := 0) rfl (enc_size _)) ?_
    refine Ol.x (alc zr_bits_Set) ?_
    rintro _ _ ⟨g11, rfl, rfl⟩
    refine Ol.s (stw sz_bits_Set (enc_size _) (encF_one _) (i := 0) rfl rfl) ?_
    refine Ol.nil ?_
    refine Cd.seq ?_
    refine Cd.seq ?_
    refine Cd.region ?_
    refine Ol.p (ldw ag_bits_Set (i := 1) rfl (enc_size _)) ?_
    refine Ol.x (sp_call en_bits_Set_List (fun M w' hh => bits_Set_List_ct (s := at_) (hT.now hh))) ?_
    rintro _ _ ⟨_, rfl, A, c, rfl, rfl⟩
    refine Ol.p (lens sl_L_int) ?_
    refine Ol.p mvi ?_
    refine Ol.nil ?_
    refine Cd.block ?_
    refine Cd.loop (fun m σ L => ∃ j, m = (listS at_).length - j ∧ j ≤ (listS at_).length ∧ Has σ [(3, .pointer (some ⟨g3, 0, none⟩)), (9, .pointer (some ⟨g9, 0, none⟩)), (10, .pointer (some ⟨g, 0, none⟩)), (11, .pointer (some ⟨g11, 0, none⟩)), (37, .slice A (listS at_).length c), (38, .int .i64 (listS at_).length), (39, .int .i64 j)] ∧ L = [row (.slice A (listS at_).length c) 3 1 (listS at_).length (intsN (listS at_)), blk g11 (.cells (enc (nextL f.terms at_ ((listS at_).take j))) 27), blk g (.cells (enc at_) 27), blk g9 (.cells (enc op) 27), blk g3 (.cells f.cells.toArray 38)]) (n := (listS at_).length) ⟨0, rfl, Nat.zero_le _, ⟨rfl, rfl, rfl, rfl, rfl, rfl, rfl, trivial⟩, rfl⟩ ?_
    rintro _ σ L ⟨j, rfl, hj, hs, rfl⟩
    refine Cd.has hs ?_
    refine Cd.seq ?_
    refine Cd.region ?_
    refine Ol.p lsi ?_
    refine Ol.nil ?_
    refine Cd.seq ?_
    refine Cd.cond rfl (fun h => ?_) (fun h => ?_)
    · have hjl : j < (listS at_).length := by simpa using h
      obtain ⟨n, hn⟩ : ∃ n, (listS at_)[j]? = some n := ⟨_, List.getElem?_eq_getElem hjl⟩
      have hnb : n < f.blocks.length := hopn n (hsub n (mem_listS.1 (List.mem_of_getElem? hn)).2)
      obtain ⟨b, hb⟩ : ∃ b, f.blocks[n]? = some b := ⟨_, List.getElem?_eq_getElem hnb⟩
      have hbm := List.mem_of_getElem? hb
      have ht : f.terms[n]? = some b.term := by simp [RFun.terms, hb]
      have htl2 := toL_len b.term
      refine Cd.skip ?_
      refine Cd.seq ?_
      refine Cd.block ?_
      refine Cd.seq ?_
      refine Cd.region ?_
      refine Ol.p (ixn1 sl_L_int (Som.row (i := 0) rfl (by omega))) ?_
      refine Ol.p (ld one_int (Rd.row (i := 0) rfl (intsN_get hn))) ?_
      refine Ol.p asi ?_
      refine Ol.nil ?_
      refine Cd.draw mixed 9 (fun q => match q with | 7 => some (NewL 3 1 (toL b.term).length (ints (toL b.term))) | 8 => some (Is (.agg (enc (withL (nextL f.terms at_ ((listS at_).take j)) (toL b.term))))) | _ => none) (fun q => match q with | 8 => [7] | _ => []) (by kernel_rfl) (by intro q V h; split at h <;> cases h; exact ⟨_, _, none, 0, rfl, rfl⟩; exact ⟨_, [], rfl, rfl⟩) (fun u hu => ?_)
      refine Wk.p (ldw ag_bits_Set (i := 1) rfl (enc_size _)) ?_
      refine Wk.p (fdl fd_api_Func_1) ?_
      refine Wk.p (ld one_L_api_Block (Rd.blk (i := 4) rfl rfl)) ?_
      refine Wk.p mvi ?_
      refine Wk.p (ixn sl_L_api_Block (Som.slc hf.blocks (by omega))) ?_
      refine Wk.p (fdp fd_api_Block_1) ?_
      refine Wk.p (lds (es := b.term.cells) ag_api_Term hf.blocks rfl (fun q u hu => by rw [Nat.add_assoc, hf.cell hb (j := 1 + q) (by have := (List.getElem?_eq_some_iff.1 hu).1; simp [Tm.cells] at this; omega), Nat.add_comm]; simpa [RBlk.cells] using hu)) ?_
      refine Wk.x hu (sp_call en_ir_To (fun M' w' hh => ir_To_ct (t := b.term))) ?_
      rintro _ _ hu7 ⟨A7, c7, rfl, rfl⟩
      refine Wk.xn hu (l := [7]) rfl (by simp) (sp_call en_bits_Set_With (fun M' w' hh => bits_Set_With_ct (s := nextL f.terms at_ ((listS at_).take j)) (l := toL b.term) (by rw [needs_cons hu7] at hh; exact Reads.row hh (i := 0) rfl) (toAt_i64 hfit hbm) (by omega))) ?_
      rintro _ _ hu8 ⟨rfl, rfl⟩
      refine Wk.nil ?_
      rw [needs_cons hu8, needs_cons hu7, needs_none]
      refine Ol.s (stw sz_bits_Set (enc_size _) (encF_one _) (i := 2) rfl (enc_size _)) ?_
      refine Ol.keep (.sub (.cons _ (List.Sublist.refl _))) ?_
      refine Ol.nil ?_
      refine Cd.region ?_
      refine Ol.p addi ?_
      refine Ol.p mvi ?_
      refine Ol.nil ?_
      refine ⟨(listS at_).length - (j + 1), by omega, j + 1, rfl, by omega, ⟨rfl, rfl, rfl, rfl, rfl, rfl, rfl, trivial⟩, ?_⟩
      rw [nextL_snoc hn, toAt_some ht]
      rfl
    have hje : j = (listS at_).length := by
      have : ¬ (j : Int) < (listS at_).length := by simpa using h
      omega
    subst hje
    rw [List.take_length]
    refine Cd.exit (id := 4) ?_
    refine Cd.seq ?_
    refine Cd.seq ?_
    refine Cd.region ?_
    refine Ol.p (ldw ag_bits_Set (i := 1) rfl (enc_size _)) ?_
    refine Ol.p (ldw ag_bits_Set (i := 3) rfl (enc_size _)) ?_
    refine Ol.s (cl en_bits_Set_And (fun M w' hh => bits_Set_And_ct (s := nextL f.terms at_ (listS at_)) (t := op))) ?_
    refine Ol.s (stw sz_bits_Set (enc_size _) (encF_one _) (i := 1) rfl (enc_size _)) ?_
    refine Ol.nil ?_
    rw [show nextL f.terms at_ (listS at_) &&& op = stepS f.terms op at_ from rfl]
    refine Cd.seq ?_
    refine Cd.region ?_
    refine Ol.p (ldw ag_bits_Set (i := 1) rfl (enc_size _)) ?_
    refine Ol.p (ldw ag_bits_Set (i := 2) rfl (enc_size _)) ?_
    refine Ol.p (eqa cm_bits_Set (enc_size _) (enc_size _) encF_tell (enc_ne (stepS_sm hatsm) hatsm)) ?_
    refine Ol.nil ?_
    refine Cd.cond rfl (fun h => ?_) (fun h => ?_)
    · have hfix : stepS f.terms op at_ = at_ := by simpa using h
      have er : reachS f.terms op s0 = at_ := by
        unfold reachS
        rw [iter_fix (k := k) (by rw [← hat]; exact hfix) 1025 (by omega), ← hat]
      rw [er]
      refine Cd.seq ?_
      refine Cd.region ?_
      refine Ol.p (ldw ag_bits_Set (i := 2) rfl (enc_size _)) ?_
      refine Ol.x (sp_call en_bits_Set_List (fun M w' hh => bits_Set_List_ct (s := at_) (hT.now hh))) ?_
      rintro _ _ ⟨_, rfl, A', c', rfl, rfl⟩
      refine Ol.p ass ?_
      refine Ol.nil ?_
      refine Cd.ret ⟨.slice _ _ _, ret1 rfl rfl, _, .sub (.cons_cons _ (List.nil_sublist _)), A', c', rfl, rfl⟩
    · have hne : stepS f.terms op at_ ≠ at_ := by simpa using h
      refine Cd.skip ?_
      refine Cd.region ?_
      refine Ol.p (ldw ag_bits_Set (i := 1) rfl (enc_size _)) ?_
      refine Ol.s (stw sz_bits_Set (enc_size _) (encF_one _) (i := 2) rfl rfl) ?_
      refine Ol.keep (.sub (.cons _ (List.Sublist.refl _))) ?_
      refine Ol.nil ?_
      exact ⟨g, g11, ⟨rfl, rfl, rfl, trivial⟩, hne, rfl⟩
  · rintro σ' _ ⟨ga, gn, hs', hne, rfl⟩
    refine Cd.has hs' ?_
    refine Cd.seq ?_
    refine Cd.region ?_
    refine Ol.p (ldw ag_bits_Set (i := 1) rfl (enc_size _)) ?_
    refine Ol.nil ?_
    refine Cd.region ?_
    refine Ol.x (alc zr_bits_Set) ?_
    rintro _ _ ⟨g10, rfl, rfl⟩
    refine Ol.s (stw sz_bits_Set (enc_size _) (encF_one _) (i := 0) rfl rfl) ?_
    refine Ol.keep (.sub (.cons_cons _ (.cons _ (.cons _ (List.Sublist.refl _))))) ?_
    refine Ol.nil ?_
    have hgrow := listS_lt (sub_step (ts := f.terms) hsub) (stepS_sm hatsm) (fun e => hne e.symm)
    have hlen2 := listS_len_le (stepS f.terms op at_)
    have hit : iterF (stepS f.terms op) (k + 1) s0 = stepS f.terms op at_ := by rw [hat]; rfl
    refine ⟨1025 - (listS (stepS f.terms op at_)).length, by omega, k + 1, g10, by rw [hit], by rw [hit]; omega, ⟨rfl, rfl, rfl, trivial⟩, by rw [hit]; exact step_sub _ _ _, by rw [hit]⟩
end
end Go.Proofs.YtbcnejobnmljlaaDoor
