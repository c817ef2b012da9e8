/- RunSafe: for every input that can be read, the law RunSafe returns true and its arguments read as before. Conditions: the row. -/
/- Part 5 of the proof of RunSafeC: the texts RunSafe, OpenL, OpenF, RunSafeC, one behind the other. -/
import Derived.Deep.Slices
import Derived.Test.YtcojedoejpcolaaRunSafeCM4
/- The law 08: RunSafe, walked. -/
namespace Go.Proofs.Ytcojedoejpcolaa
set_option linter.unusedVariables false
open Go Go.RowKit
set_option maxRecDepth 100000

def wasA (s : RSt) (n : Nat) : Array Value := ((List.range 201).map fun j => Value.int .i64 (if 1 ≤ j ∧ j < n then s.get j else 0)).toArray
theorem was_size (s : RSt) (n : Nat) : (wasA s n).size = 201 := by simp [wasA]
theorem was_zero (s : RSt) : Array.replicate 201 (Value.int .i64 0) = wasA s 1 := by
  apply Array.ext
  · simp [wasA]
  · intro i h1 h2
    simp [wasA]
    intro h3 h4
    omega
theorem was_set {s : RSt} {n : Nat} (h1 : 1 ≤ n) (h2 : n < 201) : (wasA s n).setIfInBounds n (.int .i64 (s.get n)) = wasA s (n + 1) := by
  apply Array.ext
  · simp [wasA]
  · intro i hi1 hi2
    rw [Array.getElem_setIfInBounds (by rw [was_size]; rw [was_size] at hi2; exact hi2)]
    by_cases hin : n = i
    · subst hin
      simp [wasA, h1]
    · rw [if_neg hin]
      simp only [wasA, List.getElem_toArray, List.getElem_map, List.getElem_range]
      congr 1
      by_cases hc : 1 ≤ i ∧ i < n
      · rw [if_pos hc, if_pos ⟨hc.1, by omega⟩]
      · rw [if_neg hc, if_neg (by omega)]
theorem was_get {s : RSt} {n j : Nat} (h1 : 1 ≤ j) (h2 : j < n) (h3 : n ≤ 201) : (wasA s n)[j]? = some (.int .i64 (s.get j)) := by
  unfold wasA
  rw [List.getElem?_toArray, List.getElem?_map, List.getElem?_range (by omega)]
  simp [h1, h2]
theorem step_only {f : RFun} {s : RSt} {x : RBlk} (hx : f.blocks[s.b]? = some x) {v : Int} (h : (stepR f s).vars v ≠ s.vars v) : ∃ i, x.ins[s.i]? = some i ∧ 0 < i.dst ∧ v = i.dst := by
  have hS : stepR f s = nxS (stepB s x).1 (stepB s x).2 := by unfold stepR; rw [hx]
  have e1 : (nxS (stepB s x).1 (stepB s x).2).vars = (stepB s x).1.vars := by cases (stepB s x).2 <;> rfl
  rw [hS, e1] at h
  unfold stepB at h
  cases hi : x.ins[s.i]? with
  | none => rw [hi] at h; exact absurd rfl h
  | some i =>
    rw [hi] at h
    obtain ⟨h1, h2⟩ := insF_vars (s := tick s) h
    exact ⟨i, rfl, h1, h2⟩
theorem stepR_same {f g : RFun} (e : g.bare = f.bare) (s : RSt) : stepR g s = stepR f s := by rw [← stepR_bare g, e, stepR_bare f]
theorem step_next {f : RFun} {s : RSt} {x : RBlk} (hF : Fine f) (hx : f.blocks[s.b]? = some x) (he : (stepR f s).e = 0) : (s.i < x.ins.length → (stepR f s).b = s.b ∧ (stepR f s).i = s.i + 1) ∧ (x.ins.length ≤ s.i → (stepR f s).i = 0 ∧ ((stepR f s).b : Int) ∈ toL x.term) := by
  have hS : stepR f s = nxS (stepB s x).1 (stepB s x).2 := by unfold stepR; rw [hx]
  rw [hS] at he ⊢
  cases hn : (stepB s x).2 with
  | done e v =>
    rw [hn] at he
    have h0 : e = 0 := he
    rcases stepB_done hn with h | h <;> omega
  | spot bb ii =>
    refine ⟨fun hlt => ?_, fun hge => ?_⟩
    · obtain ⟨i, hi⟩ : ∃ i, x.ins[s.i]? = some i := ⟨_, List.getElem?_eq_getElem hlt⟩
      unfold stepB at hn
      rw [hi] at hn
      obtain ⟨e1, e2⟩ := insF_spot hn
      have e1' : bb = s.b := e1
      have e2' : ii = (s.i : Int) + 1 := e2
      exact ⟨by show bb.toNat = _; omega, by show ii.toNat = _; omega⟩
    · unfold stepB at hn
      rw [List.getElem?_eq_none hge] at hn
      have hxm := List.mem_of_getElem? hx
      obtain ⟨e1, e2⟩ := termF_spot (hF.term x hxm).1 hn
      have hr := (hF.term x hxm).2 bb e2
      exact ⟨by show ii.toNat = _; omega, by show ((bb.toNat : Nat) : Int) ∈ _; rw [Int.toNat_of_nonneg (by omega)]; exact e2⟩
section
set_option maxHeartbeats 4000000 in
theorem law08_RunSafe_ct {w : World} {f : RFun} {aA mA nA : Option Addr} {aC mC nC : Nat} {args mem ans : List Int} {fuel : Int} (hf : FunAt w w.heap.size f) (hfit : Fit f) (ha : Reads w w.heap.size 1 aA args.length (ints args)) (hal : args.length < 2 ^ 60) (hm : Reads w w.heap.size 1 mA mem.length (ints mem)) (hml : mem.length < 2 ^ 60) (hn : Reads w w.heap.size 1 nA ans.length (ints ans)) (hnl : ans.length < 2 ^ 60) :
    Ct Try.prog 9 #[f.val, .slice aA args.length aC, .slice mA mem.length mC, .slice nA ans.length nC, .int .i64 fuel] w (Is (.bool true)) := by
  refine Ct.mk Try.func9 rfl rfl ?_
  refine Cd.seq ?_
  refine Cd.region ?_
  refine Ol.x bxg ?_
  rintro _ _ ⟨g5, rfl, rfl⟩
  refine Ol.p asb ?_
  refine Ol.nil ?_
  refine Cd.seq ?_
  refine Cd.seq ?_
  refine Cd.region ?_
  refine Ol.s (cl en_law08_awake (fun M w' hh => law08_awake_ct)) ?_
  refine Ol.p noti ?_
  refine Ol.nil ?_
  refine Cd.cond rfl (fun h => by cases h) (fun h => ?_)
  refine Cd.skip ?_
  refine Cd.seq ?_
  refine Cd.mid (fun σ' L' => ∃ b : Bool, (b = false → f.sz ≤ 700 ∧ args.length ≤ 700 ∧ mem.length ≤ 700 ∧ ans.length ≤ 700 ∧ fuel ≤ 200) ∧ Has σ' [(1, .slice aA args.length aC), (2, .slice mA mem.length mC), (3, .slice nA ans.length nC), (4, .int .i64 fuel), (5, .pointer (some ⟨g5, 0, none⟩)), (51, .bool b)] ∧ [blk g5 (.cells f.cells.toArray 43)] = L') ?_ ?_
  · skip
    refine Cd.region ?_
    refine Ol.p (ldw ag_api_Func (i := 0) rfl rfl) ?_
    refine Ol.x (sp_call en_kit_FuncOf (fun M w' hh => kit_FuncOf_ct (hf.now hh) hfit (most := 700) (by decide))) ?_
    rintro _ _ ⟨_, rfl, N, rfl, hN1, hN2, rfl⟩
    cases h12 : decide ((700 : Int) < (N : Int) + args.length + mem.length + ans.length) with
    | true =>
      refine Ol.p mvs ?_
      refine Ol.p (lens sl_L_int) ?_
      refine Ol.p addi ?_
      refine Ol.p mvs ?_
      refine Ol.p (lens sl_L_int) ?_
      refine Ol.p addi ?_
      refine Ol.p mvs ?_
      refine Ol.p (lens sl_L_int) ?_
      refine Ol.p addi ?_
      refine Ol.p gti ?_
      refine Ol.p mvb ?_
      refine Ol.gn h12 ?_
      refine Ol.gn h12 ?_
      refine Ol.p (pkTb h12) ?_
      refine Ol.nil ?_
      exact ⟨true, (fun h => by cases h), ⟨rfl, rfl, rfl, rfl, rfl, rfl, trivial⟩, rfl⟩
    | false =>
      refine Ol.p mvs ?_
      refine Ol.p (lens sl_L_int) ?_
      refine Ol.p addi ?_
      refine Ol.p mvs ?_
      refine Ol.p (lens sl_L_int) ?_
      refine Ol.p addi ?_
      refine Ol.p mvs ?_
      refine Ol.p (lens sl_L_int) ?_
      refine Ol.p addi ?_
      refine Ol.p gti ?_
      refine Ol.p mvb ?_
      refine Ol.gp h12 mvi ?_
      refine Ol.gp h12 gti ?_
      refine Ol.p (pkFb h12) ?_
      refine Ol.nil ?_
      refine ⟨decide (200 < fuel), (fun h => ?_), ⟨rfl, rfl, rfl, rfl, rfl, rfl, trivial⟩, rfl⟩
      simp only [decide_eq_false_iff_not] at h12 h
      have := hN1 (by omega)
      omega
  rintro σ' _ ⟨b51, hb51, hs', rfl⟩
  refine Cd.has hs' ?_
  refine Cd.cond rfl (fun h => ?_) (fun h => ?_)
  · refine Cd.seq ?_
    refine Cd.region ?_
    refine Ol.p asb ?_
    refine Ol.nil ?_
    exact Cd.ret ⟨.bool _, ret1 rfl rfl, [], Keep.nil, rfl, rfl⟩
  obtain ⟨hsz, hal7, hml7, hnl7, hf2⟩ := hb51 h
  clear hs' h hb51
  have hbi : BlksIn w w.heap.size f.bA f.blocks := BlksIn.of8 hf hsz
  have hpl : f.params.length < 2 ^ 43 := by
    have h0 : f.params.length + blocksSz f.blocks ≤ 700 := hsz
    omega
  have h43 : ∀ b ∈ f.blocks, ∀ i ∈ b.ins, i.args.length < 2 ^ 43 := fun b hb i hi => by
    have := s8_alen hsz b hb i hi
    omega
  refine Cd.skip ?_
  refine Cd.seq ?_
  refine Cd.region ?_
  refine Ol.p (ldw (cs := f.cells.toArray) ag_api_Func (i := 0) rfl rfl) ?_
  refine Ol.p mvs ?_
  refine Ol.p mvs ?_
  refine Ol.p mvs ?_
  refine Ol.x (sp_call (vs := [f.val, .slice aA args.length aC, .slice mA mem.length mC, .slice nA ans.length nC]) (R := BegR f args mem ans) en_run_Begin (fun M w' hh => run_Begin_ct (args := args) (mem := mem) (ans := ans) (hf.now hh) hfit hpl (hbi.now hh) h43 (ha.now hh) (hm.now hh) (hn.now hh) (by omega) (by omega))) ?_
  rintro _ _ ⟨R, rfl, hR⟩
  rcases hR with ⟨hok, y0, hgb, hro, rfl, rfl⟩ | ⟨hno, rfl, rfl⟩
  rotate_left
  · skip
    refine Ol.p mvt ?_
    refine Ol.p extv ?_
    refine Ol.p extv ?_
    refine Ol.p asp ?_
    refine Ol.p asi ?_
    refine Ol.nil ?_
    refine Cd.seq ?_
    refine Cd.seq ?_
    refine Cd.region ?_
    refine Ol.p mvi ?_
    refine Ol.p nei ?_
    refine Ol.nil ?_
    refine Cd.cond rfl (fun h => ?_) (fun h => nomatch h)
    refine Cd.seq ?_
    refine Cd.region ?_
    refine Ol.p mvp ?_
    refine Ol.p (epn pt_P_run_Run) ?_
    refine Ol.p asb ?_
    refine Ol.nil ?_
    exact Cd.ret ⟨.bool true, ret1 rfl rfl, [], Keep.nil, rfl, rfl⟩
  refine Ol.p mvt ?_
  refine Ol.p extv ?_
  refine Ol.p extv ?_
  refine Ol.p asp ?_
  refine Ol.p asi ?_
  refine Ol.nil ?_
  refine Cd.keep Keep.comm ?_
  have hF : Fine f := Fine.of hok.1 h43
  have hval : valuedF f = true := (rightF_iff.1 hok.1).2.2.2.2
  refine Cd.seq ?_
  refine Cd.seq ?_
  refine Cd.region ?_
  refine Ol.p mvi ?_
  refine Ol.p nei ?_
  refine Ol.nil ?_
  refine Cd.cond rfl (fun h => nomatch h) (fun h => ?_)
  refine Cd.skip ?_
  refine Cd.seq ?_
  refine Cd.seq ?_
  refine Cd.region ?_
  refine Ol.p asi ?_
  refine Ol.nil ?_
  refine Cd.block ?_   -- 0
  refine Cd.loop (fun m σ L => ∃ (k : Nat) (y : RLay) (s : RSt), m = 200 - k ∧ k ≤ 200 ∧ y.g.bare = f.bare ∧ RunOk w w.heap.size y s ∧ Runs f s k ∧ (s.e = 0 → Unset f s) ∧ s.steps = k ∧ Has σ [(4, .int .i64 fuel), (5, .pointer (some ⟨g5, 0, none⟩)), (11, .pointer (some ⟨y.gR, 0, none⟩)), (13, .int .i64 k)] ∧ [blk g5 (.cells f.cells.toArray 43)] ++ runL y s = L) (n := 200) ⟨0, y0, begS f args mem ans, rfl, Nat.zero_le _, hgb, hro _ _, Runs.beg hF hok.2.2, fun _ => Unset.beg hok, rfl, ⟨rfl, rfl, rfl, rfl, trivial⟩, rfl⟩ ?_
  rintro _ σ L ⟨k, y, s, rfl, hk, hgb', hro', hR, hU, hsk, hs, rfl⟩
  refine Cd.has hs ?_
  clear hs
  refine Cd.seq ?_
  refine Cd.seq ?_
  refine Cd.region ?_
  refine Ol.p mvi ?_
  refine Ol.p mvi ?_
  refine Ol.p lsi ?_
  refine Ol.nil ?_
  refine Cd.cond rfl (fun h => ?_) (fun h => ?_)   -- $66
  rotate_left
  · refine Cd.exit (id := 0) ?_
    refine Cd.seq ?_
    refine Cd.region ?_
    refine Ol.p asb ?_
    refine Ol.nil ?_
    exact Cd.ret ⟨.bool true, ret1 rfl rfl, [], Keep.nil, rfl, rfl⟩
  have hkf : k < 200 := by
    have : (k : Int) < fuel := of_decide_eq_true h
    omega
  have hst := hR.steps
  have hcl := hR.calls
  have hmm := hR.mem
  have hra : ∀ r ∈ y.recs, r.args.length < 2 ^ 43 := fun r hr => hR.args (r.callee, r.args) (by rw [hro'.calls]; exact List.mem_map_of_mem hr)
  refine Cd.skip ?_
  refine Cd.mid (fun σ' L' => ∃ (y' : RLay) (s' : RSt), y'.gR = y.gR ∧ y'.g.bare = f.bare ∧ RunOk w w.heap.size y' s' ∧ Runs f s' (k + 1) ∧ (s'.e = 0 → Unset f s') ∧ s'.steps = k + 1 ∧ Has σ' [(4, .int .i64 fuel), (5, .pointer (some ⟨g5, 0, none⟩)), (11, .pointer (some ⟨y.gR, 0, none⟩)), (13, .int .i64 k)] ∧ [blk g5 (.cells f.cells.toArray 43)] ++ runL y' s' = L') ?_ ?_
  rotate_left
  · rintro σ' _ ⟨y', s', hg1, hgb2, hro2, hR2, hU2, hsk2, hs', rfl⟩
    rw [← hg1] at hs'
    refine Cd.has hs' ?_
    refine Cd.region ?_
    refine Ol.p mvi ?_
    refine Ol.p addi ?_
    refine Ol.p asi ?_
    refine Ol.nil ?_
    exact ⟨200 - (k + 1), by omega, k + 1, y', s', rfl, by omega, hgb2, hro2, hR2, hU2, hsk2, ⟨rfl, rfl, rfl, rfl, trivial⟩, rfl⟩
  refine Cd.block ?_   -- 1
  refine Cd.seq ?_
  refine Cd.region ?_
  refine Ol.p mvp ?_
  refine Ol.x (sp_callm (vs := [.pointer (some ⟨y.gR, 0, none⟩)]) (Lin := runL y s) (L2 := [blk g5 (.cells f.cells.toArray 43)]) (R := fun u L => u = .tuple #[.int .i64 s.b, .int .i64 s.i] ∧ L = runL y s) en_P_run_Run_At (List.perm_append_comm (l₁ := [_])) run_At_cm) ?_
  rintro _ _ ⟨_, rfl, rfl, rfl⟩
  refine Ol.keep Keep.comm ?_
  refine Ol.p mvt ?_
  refine Ol.p extv ?_
  refine Ol.p extv ?_
  refine Ol.p asi ?_
  refine Ol.p asi ?_
  refine Ol.nil ?_
  refine Cd.seq ?_
  refine Cd.seq ?_
  refine Cd.region ?_
  refine Ol.p mvp ?_
  refine Ol.x (sp_callm (vs := [.pointer (some ⟨y.gR, 0, none⟩)]) (Lin := runL y s) (L2 := [blk g5 (.cells f.cells.toArray 43)]) (R := fun v L => ∃ z : RRes, z.of s ∧ v = .agg z.cells.toArray ∧ L.Perm (z.res ++ runL y s)) en_P_run_Run_Result (List.perm_append_comm (l₁ := [_])) (run_Result_cm hro' (by omega) (by omega) hra)) ?_
  rintro _ _ ⟨Tz, rfl, z, hz, rfl, hTz⟩
  refine Ol.keep (L' := [blk g5 (.cells f.cells.toArray 43)] ++ runL y s) (keep_count z.res fun _ q => by
    have := hTz.count_eq q
    simp only [List.count_append] at this ⊢
    omega) ?_
  refine Ol.p (fdv fv_run_Result_0 one_api_EndKind rfl) ?_
  refine Ol.p nei ?_
  refine Ol.nil ?_
  refine Cd.cond rfl (fun h => ?_) (fun h => ?_)   -- $77
  · have he : s.e ≠ 0 := by
      rw [← hz.1]
      simpa using h
    refine Cd.seq ?_
    refine Cd.region ?_
    refine Ol.p mvp ?_
    refine Ol.x (sp_callm (vs := [.pointer (some ⟨y.gR, 0, none⟩)]) (Lin := runL y s) (L2 := [blk g5 (.cells f.cells.toArray 43)]) (R := fun v L => ∃ z : RRes, z.of s ∧ v = .agg z.cells.toArray ∧ L.Perm (z.res ++ runL y s)) en_P_run_Run_Result (List.perm_append_comm (l₁ := [_])) (run_Result_cm hro' (by omega) (by omega) hra)) ?_
    rintro _ _ ⟨Tz1, rfl, z1, hz1, rfl, hTz1⟩
    refine Ol.keep (L' := [blk g5 (.cells f.cells.toArray 43)] ++ runL y s) (keep_count z1.res fun _ q => by
      have := hTz1.count_eq q
      simp only [List.count_append] at this ⊢
      omega) ?_
    refine Ol.p mvp ?_
    refine Ol.x (sp_callm (vs := [.pointer (some ⟨y.gR, 0, none⟩)]) (Lin := runL y s) (L2 := [blk g5 (.cells f.cells.toArray 43)]) (R := fun v L => v = .bool false ∧ L = runL y s) en_P_run_Run_Step (List.perm_append_comm (l₁ := [_])) (run_Step_end_cm he)) ?_
    rintro _ _ ⟨_, rfl, rfl, rfl⟩
    refine Ol.keep Keep.comm ?_
    refine Ol.x (alc zr_run_Result) ?_
    rintro _ _ ⟨g16, rfl, rfl⟩
    refine Ol.s (stw (vs := z1.cells.toArray) sz_run_Result rfl z1.one (i := 0) rfl rfl) ?_
    refine Ol.p asb ?_
    refine Ol.nil ?_
    refine Cd.seq ?_
    refine Cd.region ?_
    refine Ol.p mvp ?_
    refine Ol.x (sp_callm (vs := [.pointer (some ⟨y.gR, 0, none⟩)]) (Lin := runL y s) (L2 := [blk g16 (.cells z1.cells.toArray 67), blk g5 (.cells f.cells.toArray 43)]) (R := fun v L => ∃ z : RRes, z.of s ∧ v = .agg z.cells.toArray ∧ L.Perm (z.res ++ runL y s)) en_P_run_Run_Result (List.perm_append_comm (l₁ := [_, _])) (run_Result_cm hro' (by omega) (by omega) hra)) ?_
    rintro _ _ ⟨Tz2, rfl, z2, hz2, rfl, hTz2⟩
    refine Ol.keep (L' := [blk g16 (.cells z1.cells.toArray 67), blk g5 (.cells f.cells.toArray 43)] ++ runL y s) (keep_count z2.res fun _ q => by
      have := hTz2.count_eq q
      simp only [List.count_append] at this ⊢
      omega) ?_
    refine Ol.x (alc zr_run_Result) ?_
    rintro _ _ ⟨g18, rfl, rfl⟩
    refine Ol.s (stw (vs := z2.cells.toArray) sz_run_Result rfl z2.one (i := 0) rfl rfl) ?_
    refine Ol.nil ?_
    refine Cd.seq ?_
    refine Cd.region ?_
    refine Ol.p mvp ?_
    refine Ol.x (sp_callm (vs := [.pointer (some ⟨y.gR, 0, none⟩)]) (Lin := runL y s) (L2 := [blk g18 (.cells z2.cells.toArray 67), blk g16 (.cells z1.cells.toArray 67), blk g5 (.cells f.cells.toArray 43)]) (R := fun u L => u = .tuple #[.int .i64 s.b, .int .i64 s.i] ∧ L = runL y s) en_P_run_Run_At (List.perm_append_comm (l₁ := [_, _, _])) run_At_cm) ?_
    rintro _ _ ⟨_, rfl, rfl, rfl⟩
    refine Ol.keep Keep.comm ?_
    refine Ol.p mvt ?_
    refine Ol.p extv ?_
    refine Ol.p extv ?_
    refine Ol.p asi ?_
    refine Ol.p asi ?_
    refine Ol.nil ?_
    have q8 : decide ((z1.steps : Int) = (k : Int)) = true := by rw [hz1.2.2.2.1, hsk]; simp
    have q14 : decide ((z2.steps : Int) = (k : Int)) = true := by rw [hz2.2.2.2.1, hsk]; simp
    have q19 : decide ((s.b : Int) = (s.b : Int)) = true := by simp
    refine Cd.seq ?_
    refine Cd.region ?_
    refine Ol.p mvb ?_
    refine Ol.p noti ?_
    refine Ol.p mvb ?_
    refine Ol.gp rfl (fdl fd_run_Result_4) ?_
    refine Ol.gp rfl (ld (v := .int .i64 z1.steps) one_int (Rd.blk (i := 1) rfl rfl)) ?_
    refine Ol.gp rfl mvi ?_
    refine Ol.gp rfl eqi ?_
    refine Ol.p (pkTb rfl) ?_
    refine Ol.p mvb ?_
    refine Ol.gp q8 (fdl fd_run_Result_4) ?_
    refine Ol.gp q8 (ld (v := .int .i64 z2.steps) one_int (Rd.blk (i := 0) rfl rfl)) ?_
    refine Ol.gp q8 mvi ?_
    refine Ol.gp q8 eqi ?_
    refine Ol.p (pkTb q8) ?_
    refine Ol.p mvb ?_
    refine Ol.gp q14 mvi ?_
    refine Ol.gp q14 mvi ?_
    refine Ol.gp q14 eqi ?_
    refine Ol.p (pkTb q14) ?_
    refine Ol.p mvb ?_
    refine Ol.gp q19 mvi ?_
    refine Ol.gp q19 mvi ?_
    refine Ol.gp q19 eqi ?_
    refine Ol.p (pkTb q19) ?_
    refine Ol.p asb ?_
    refine Ol.nil ?_
    exact Cd.ret ⟨.bool _, ret1 rfl rfl, [], Keep.nil, congrArg Value.bool (by simp), rfl⟩
  have he : s.e = 0 := by
    rw [← hz.1]
    simpa using h
  obtain ⟨x, hx, hix⟩ := hR.stand he
  have hxm := List.mem_of_getElem? hx
  have hxl := hbi.len
  have hx64 := hF.ins x hxm
  have hbl : s.b < f.blocks.length := (List.getElem?_eq_some_iff.1 hx).1
  have hUn := hU he
  refine Cd.skip ?_
  refine Cd.seq ?_
  refine Cd.region ?_
  refine Ol.p (fdl fd_api_Func_1) ?_
  refine Ol.p (ld (v := .slice f.bA f.blocks.length f.bC) one_L_api_Block (Rd.blk (i := 0) rfl rfl)) ?_
  refine Ol.p mvi ?_
  refine Ol.p (ixn (ix := s.b) sl_L_api_Block (Som.slc hf.blocks (by omega))) ?_
  refine Ol.p (lds (es := x.cells) ag_api_Block hf.blocks x.len (fun j u hu => blk_cell hx hu)) ?_
  refine Ol.x (alc zr_api_Block) ?_
  rintro _ _ ⟨g21, rfl, rfl⟩
  refine Ol.s (stw (vs := x.cells.toArray) sz_api_Block rfl x.one (i := 0) rfl rfl) ?_
  refine Ol.nil ?_
  refine Cd.seq ?_
  refine Cd.region ?_
  refine Ol.p (fdl fd_api_Block_1) ?_
  refine Ol.p (ldp (k := 0 + 1) (vs := x.term.cells.toArray) ag_api_Term (i := 0) rfl rfl (fun j u hu => by rw [Nat.zero_add, Nat.add_comm]; simpa [RBlk.cells] using hu)) ?_
  refine Ol.x (sp_call en_ir_Needs (fun M w' hh => ir_Needs_ct (t := x.term))) ?_
  rintro _ _ ⟨_, rfl, A120, c120, rfl, rfl⟩
  refine Ol.p ass ?_
  refine Ol.nil ?_
  refine Cd.seq ?_
  refine Cd.region ?_
  refine Ol.p asi ?_
  refine Ol.nil ?_
  refine Cd.mid (fun σ' L' => ∃ (An : Option Addr) (cn : Nat) (nd : List Int) (df : Int), (∀ v ∈ nd, (s.vars v).isSome = true) ∧ nd.length < 2 ^ 40 ∧ (∀ v, 1 ≤ v → (stepR f s).vars v ≠ s.vars v → v = df) ∧ Has σ' [(4, .int .i64 fuel), (5, .pointer (some ⟨g5, 0, none⟩)), (11, .pointer (some ⟨y.gR, 0, none⟩)), (13, .int .i64 k), (14, .int .i64 s.b), (15, .int .i64 s.i), (21, .pointer (some ⟨g21, 0, none⟩)), (22, .slice An nd.length cn), (23, .int .i64 df)] ∧ [row (.slice An nd.length cn) 3 1 nd.length (ints nd), blk g21 (.cells x.cells.toArray 50), blk g5 (.cells f.cells.toArray 43)] ++ runL y s = L') ?_ ?_
  · refine Cd.seq ?_
    refine Cd.region ?_
    refine Ol.p mvi ?_
    refine Ol.p (fdl fd_api_Block_0) ?_
    refine Ol.p (ld (v := .slice x.iA x.ins.length x.iC) one_L_api_Ins (Rd.blk (i := 1) rfl rfl)) ?_
    refine Ol.p (lens sl_L_api_Ins) ?_
    refine Ol.p lsi ?_
    refine Ol.nil ?_
    refine Cd.cond rfl (fun h => ?_) (fun h => ?_)   -- $125
    · have hlt : s.i < x.ins.length := by
        simp only [decide_eq_true_eq] at h; omega
      obtain ⟨i, hi⟩ : ∃ i, x.ins[s.i]? = some i := ⟨_, List.getElem?_eq_getElem hlt⟩
      have him := List.mem_of_getElem? hi
      have hrl := readsL_len i
      have hai := hfit.alen x hxm i him
      have hia : ∀ {M : List Res} {w' : World}, Hp w w.heap.size M w' → InsAt w' i := fun hh => ⟨(hf.args x hxm i him).now hh, hai, hfit.insr x hxm i him i.callee (by simp)⟩
      refine Cd.seq ?_
      refine Cd.region ?_
      refine Ol.p (fdl fd_api_Block_0) ?_
      refine Ol.p (ld (v := .slice x.iA x.ins.length x.iC) one_L_api_Ins (Rd.blk (i := 1) rfl rfl)) ?_
      refine Ol.p mvi ?_
      refine Ol.p (ixn (ix := s.i) sl_L_api_Ins (Som.slc (hf.ins x hxm) (by omega))) ?_
      refine Ol.p (lds (es := i.cells) ag_api_Ins (hf.ins x hxm) i.len (fun j u hu => ins_cell hi hu)) ?_
      refine Ol.x (sp_call en_ir_Reads (fun M w' hh => ir_Reads_ct (hia hh))) ?_
      rintro _ _ ⟨_, rfl, A131, c131, rfl, rfl⟩
      refine Ol.p ass ?_
      refine Ol.nil ?_
      refine Cd.region ?_
      refine Ol.p (fdl fd_api_Block_0) ?_
      refine Ol.p (ld (v := .slice x.iA x.ins.length x.iC) one_L_api_Ins (Rd.blk (i := 2) rfl rfl)) ?_
      refine Ol.p mvi ?_
      refine Ol.p (ixn (ix := s.i) sl_L_api_Ins (Som.slc (hf.ins x hxm) (by omega))) ?_
      refine Ol.p (lds (es := i.cells) ag_api_Ins (hf.ins x hxm) i.len (fun j u hu => ins_cell hi hu)) ?_
      refine Ol.s (cl en_ir_Defines (fun M w' hh => ir_Defines_ct (hia hh))) ?_
      refine Ol.p asi ?_
      refine Ol.keep (.sub (.cons_cons _ (.cons _ (List.Sublist.refl _)))) ?_
      refine Ol.nil ?_
      refine ⟨A131, c131, readsL i, defI i, fun v hv => Unset.read hval hUn hx hi hv, by omega, fun v _ hv => ?_, ⟨rfl, rfl, rfl, rfl, rfl, rfl, rfl, rfl, rfl, trivial⟩, rfl⟩
      obtain ⟨i', hi', hd, hvd⟩ := step_only hx hv
      rw [hi] at hi'
      have := Option.some.inj hi'
      subst this
      have hw : isIns i = true := by
        have hw0 := (rightF_iff.1 hok.1).2.1
        unfold wholeF at hw0
        simp only [Bool.and_eq_true, List.all_eq_true] at hw0
        have h1 := hw0.2 x hxm
        unfold wholeB at h1
        simp only [Bool.and_eq_true, List.all_eq_true] at h1
        exact h1.2 i him
      unfold defI
      rw [hw]
      exact hvd
    have hge : x.ins.length ≤ s.i := by
      simp only [decide_eq_false_iff_not] at h; omega
    have hnl := needsL_len x.term
    refine Cd.skip ?_
    refine ⟨A120, c120, needsL x.term, 0, fun v hv => Unset.need hval hUn hx hge hv, by omega, fun v _ hv => ?_, ⟨rfl, rfl, rfl, rfl, rfl, rfl, rfl, rfl, rfl, trivial⟩, rfl⟩
    obtain ⟨i', hi', _⟩ := step_only hx hv
    rw [List.getElem?_eq_none hge] at hi'
    cases hi'
  rintro σ' _ ⟨An, cn, nd, df, hnd, hndl, hdf, hs', rfl⟩
  refine Cd.has hs' ?_
  clear hs'
  refine Cd.seq ?_
  refine Cd.seq ?_
  refine Cd.region ?_
  refine Ol.p asi ?_
  refine Ol.nil ?_
  refine Cd.block ?_   -- 2
  refine Cd.loop (fun m σ L => ∃ q, m = nd.length - q ∧ q ≤ nd.length ∧ Has σ [(4, .int .i64 fuel), (5, .pointer (some ⟨g5, 0, none⟩)), (11, .pointer (some ⟨y.gR, 0, none⟩)), (13, .int .i64 k), (14, .int .i64 s.b), (15, .int .i64 s.i), (21, .pointer (some ⟨g21, 0, none⟩)), (22, .slice An nd.length cn), (23, .int .i64 df), (24, .int .i64 q)] ∧ [row (.slice An nd.length cn) 3 1 nd.length (ints nd), blk g21 (.cells x.cells.toArray 50), blk g5 (.cells f.cells.toArray 43)] ++ runL y s = L) (n := nd.length) ⟨0, rfl, Nat.zero_le _, ⟨rfl, rfl, rfl, rfl, rfl, rfl, rfl, rfl, rfl, rfl, trivial⟩, rfl⟩ ?_
  rintro _ σ L ⟨q, rfl, hq, hs, rfl⟩
  refine Cd.has hs ?_
  clear hs
  refine Cd.seq ?_
  refine Cd.seq ?_
  refine Cd.region ?_
  refine Ol.p mvi ?_
  refine Ol.p mvs ?_
  refine Ol.p (lens sl_L_int) ?_
  refine Ol.p lsi ?_
  refine Ol.nil ?_
  refine Cd.cond rfl (fun h => ?_) (fun h => ?_)   -- $141
  · have hqt : q < nd.length := by
      simp only [decide_eq_true_eq] at h; omega
    obtain ⟨v, hv⟩ : ∃ v, nd[q]? = some v := ⟨_, List.getElem?_eq_getElem hqt⟩
    have hsome := hnd v (List.mem_of_getElem? hv)
    refine Cd.skip ?_
    refine Cd.seq ?_
    refine Cd.block ?_   -- 3
    refine Cd.seq ?_
    refine Cd.region ?_
    refine Ol.p mvp ?_
    refine Ol.p mvs ?_
    refine Ol.p mvi ?_
    refine Ol.p (ixn1 (ix := q) sl_L_int (Som.row (i := 0) rfl (by omega))) ?_
    refine Ol.p (ld (v := .int .i64 v) one_int (Rd.row (i := 0) rfl (ints_at hv))) ?_
    refine Ol.x (sp_callm (vs := [.pointer (some ⟨y.gR, 0, none⟩), .int .i64 v]) (Lin := runL y s) (L2 := [row (.slice An nd.length cn) 3 1 nd.length (ints nd), blk g21 (.cells x.cells.toArray 50), blk g5 (.cells f.cells.toArray 43)]) (R := fun u L => u = .tuple #[.int .i64 (s.get v), .bool (true)] ∧ L = runL y s) en_P_run_Run_Var (List.perm_append_comm (l₁ := [_, _, _])) (by have h9 := run_Var_cm (v := v) hro'; rw [hsome] at h9; exact h9)) ?_
    rintro _ _ ⟨_, rfl, rfl, rfl⟩
    refine Ol.keep Keep.comm ?_
    refine Ol.p mvt ?_
    refine Ol.p extv ?_
    refine Ol.p extv ?_
    refine Ol.p asi ?_
    refine Ol.p asb ?_
    refine Ol.nil ?_
    refine Cd.seq ?_
    refine Cd.region ?_
    refine Ol.p mvb ?_
    refine Ol.p noti ?_
    refine Ol.nil ?_
    refine Cd.cond rfl (fun h => nomatch h) (fun h => ?_)   -- $154
    refine Cd.skip ?_
    refine Cd.region ?_
    refine Ol.p mvi ?_
    refine Ol.p addi ?_
    refine Ol.p asi ?_
    refine Ol.nil ?_
    exact ⟨nd.length - (q + 1), by omega, q + 1, rfl, by omega, ⟨rfl, rfl, rfl, rfl, rfl, rfl, rfl, rfl, rfl, rfl, trivial⟩, rfl⟩
  refine Cd.exit (id := 2) ?_
  refine Cd.keep (L' := [blk g21 (.cells x.cells.toArray 50), blk g5 (.cells f.cells.toArray 43)] ++ runL y s) (.sub (.cons _ (List.Sublist.refl _))) ?_
  refine Cd.seq ?_
  refine Cd.region ?_
  refine Ol.x (alc zr_A201_int) ?_
  rintro _ _ ⟨g27, rfl, rfl⟩
  refine Ol.nil ?_
  refine Cd.seq ?_
  refine Cd.seq ?_
  refine Cd.region ?_
  refine Ol.p asi ?_
  refine Ol.nil ?_
  refine Cd.block ?_   -- 4
  refine Cd.loop (fun m σ L => ∃ q, m = 201 - q ∧ 1 ≤ q ∧ q ≤ 201 ∧ Has σ [(4, .int .i64 fuel), (5, .pointer (some ⟨g5, 0, none⟩)), (11, .pointer (some ⟨y.gR, 0, none⟩)), (13, .int .i64 k), (14, .int .i64 s.b), (15, .int .i64 s.i), (21, .pointer (some ⟨g21, 0, none⟩)), (23, .int .i64 df), (27, .pointer (some ⟨g27, 0, none⟩)), (28, .int .i64 q)] ∧ [blk g27 (.cells (wasA s (q)) 78), blk g21 (.cells x.cells.toArray 50), blk g5 (.cells f.cells.toArray 43)] ++ runL y s = L) (n := 200) ⟨1, rfl, Nat.le_refl _, by decide, ⟨rfl, rfl, rfl, rfl, rfl, rfl, rfl, rfl, rfl, rfl, trivial⟩, by rw [← was_zero]; rfl⟩ ?_
  rintro _ σ L ⟨q, rfl, hq1, hq2, hs, rfl⟩
  refine Cd.has hs ?_
  clear hs
  refine Cd.seq ?_
  refine Cd.seq ?_
  refine Cd.region ?_
  refine Ol.p mvi ?_
  refine Ol.p lei ?_
  refine Ol.nil ?_
  refine Cd.cond rfl (fun h => ?_) (fun h => ?_)   -- $156
  · have hq200 : q ≤ 200 := by
      simp only [decide_eq_true_eq] at h; omega
    refine Cd.skip ?_
    refine Cd.seq ?_
    refine Cd.block ?_   -- 5
    refine Cd.region ?_
    refine Ol.p mvi ?_
    refine Ol.p mvp ?_
    refine Ol.p mvi ?_
    refine Ol.x (sp_callm (vs := [.pointer (some ⟨y.gR, 0, none⟩), .int .i64 (q : Int)]) (Lin := runL y s) (L2 := [blk g27 (.cells (wasA s (q)) 78), blk g21 (.cells x.cells.toArray 50), blk g5 (.cells f.cells.toArray 43)]) (R := fun u L => u = .tuple #[.int .i64 (s.get (q : Int)), .bool ((s.vars (q : Int)).isSome)] ∧ L = runL y s) en_P_run_Run_Var (List.perm_append_comm (l₁ := [_, _, _])) (run_Var_cm hro')) ?_
    rintro _ _ ⟨_, rfl, rfl, rfl⟩
    refine Ol.keep Keep.comm ?_
    refine Ol.p mvt ?_
    refine Ol.p extv ?_
    refine Ol.p extv ?_
    refine Ol.p (ixl1 (ix := q) ar_A201_int) ?_
    refine Ol.s (sto (v := .int .i64 (s.get q)) (i := 0) (k := q) (.inr sz_int) rfl rfl rfl (by rw [was_size]; omega) rfl) ?_
    refine Ol.nil ?_
    refine Cd.region ?_
    refine Ol.p mvi ?_
    refine Ol.p addi ?_
    refine Ol.p asi ?_
    refine Ol.nil ?_
    exact ⟨201 - (q + 1), by omega, q + 1, rfl, by omega, by omega, ⟨rfl, rfl, rfl, rfl, rfl, rfl, rfl, rfl, rfl, rfl, trivial⟩, by rw [← was_set hq1 (by omega)]; rfl⟩
  have hq201 : q = 201 := by
    simp only [decide_eq_false_iff_not] at h; omega
  subst hq201
  refine Cd.exit (id := 4) ?_
  -- the step
  obtain ⟨b, hb, hbx⟩ : ∃ b, y.g.blocks[s.b]? = some b ∧ x.bare = b.bare := blk_unbare (by rw [hgb']; exact blk_bare hx)
  have hbl2 : b.ins.length = x.ins.length := by
    have := congrArg (fun z => z.ins.length) hbx
    simpa [RBlk.bare] using this.symm
  have hFg : Fine y.g := hF.bare hgb'
  have hSs : stepR y.g s = stepR f s := stepR_same hgb' s
  have hR2 := hR.step hF he
  have hnext := fun h0 => step_next hF hx h0
  have htick := (hR.tick he).1
  have hU2 : (stepR f s).e = 0 → Unset f (stepR f s) := fun h0 => hUn.step hF hR he h0
  refine Cd.seq ?_
  refine Cd.seq ?_
  refine Cd.region ?_
  refine Ol.p mvp ?_
  refine Ol.x (sp_callm (vs := [.pointer (some ⟨y.gR, 0, none⟩)]) (Lin := runL y s) (L2 := [blk g27 (.cells (wasA s (201)) 78), blk g21 (.cells x.cells.toArray 50), blk g5 (.cells f.cells.toArray 43)]) (R := RunTo w w.heap.size y (stepR y.g s) (.bool true)) en_P_run_Run_Step (List.perm_append_comm (l₁ := [_, _, _])) (run_Step_cm hro' he hb (by omega) (by omega) (fun i hi => Nat.lt_trans (hFg.args b (List.mem_of_getElem? hb) i hi) (by decide)) (fun bb ii hx' => by obtain ⟨h1, h2, _⟩ := stepB_spot hFg hb (by omega) hx'; exact ⟨h1, h2⟩) (by omega) (by omega) (by omega))) ?_
  rintro _ _ ⟨_, rfl, rfl, y2, hg3, hg4, hro2, rfl⟩
  refine Ol.keep Keep.comm ?_
  rw [hSs] at hro2
  rw [hSs]
  refine Ol.p noti ?_
  refine Ol.nil ?_
  obtain ⟨s2, hs2⟩ : ∃ s2, s2 = stepR f s := ⟨_, rfl⟩
  rw [← hs2] at hro2 hR2 hnext htick hU2 hdf ⊢
  have hgb2 : y2.g.bare = f.bare := by rw [hg4]; exact hgb'
  have hra2 : ∀ r ∈ y2.recs, r.args.length < 2 ^ 43 := fun r hr => hR2.args (r.callee, r.args) (by rw [hro2.calls]; exact List.mem_map_of_mem hr)
  have hcl2 := hR2.calls
  have hmm2 := hR2.mem
  have hg3' : y.gR = y2.gR := hg3.symm
  refine Cd.cond rfl (fun h => nomatch h) (fun h => ?_)   -- $169
  refine Cd.skip ?_
  refine Cd.seq ?_
  refine Cd.seq ?_
  refine Cd.region ?_
  refine Ol.p asi ?_
  refine Ol.nil ?_
  refine Cd.block ?_   -- 6
  refine Cd.loop (fun m σ L => ∃ q, m = 201 - q ∧ 1 ≤ q ∧ q ≤ 201 ∧ Has σ [(4, .int .i64 fuel), (5, .pointer (some ⟨g5, 0, none⟩)), (11, .pointer (some ⟨y2.gR, 0, none⟩)), (13, .int .i64 k), (14, .int .i64 s.b), (15, .int .i64 s.i), (21, .pointer (some ⟨g21, 0, none⟩)), (23, .int .i64 df), (27, .pointer (some ⟨g27, 0, none⟩)), (29, .int .i64 q)] ∧ [blk g27 (.cells (wasA s (201)) 78), blk g21 (.cells x.cells.toArray 50), blk g5 (.cells f.cells.toArray 43)] ++ runL y2 s2 = L) (n := 200) ⟨1, rfl, Nat.le_refl _, by decide, ⟨rfl, rfl, by rw [← hg3']; rfl, rfl, rfl, rfl, rfl, rfl, rfl, rfl, trivial⟩, rfl⟩ ?_
  rintro _ σ L ⟨q, rfl, hq1, hq2, hs, rfl⟩
  refine Cd.has hs ?_
  clear hs
  refine Cd.seq ?_
  refine Cd.seq ?_
  refine Cd.region ?_
  refine Ol.p mvi ?_
  refine Ol.p lei ?_
  refine Ol.nil ?_
  refine Cd.cond rfl (fun h => ?_) (fun h => ?_)   -- $171
  · have hq200 : q ≤ 200 := by
      simp only [decide_eq_true_eq] at h; omega
    refine Cd.skip ?_
    refine Cd.seq ?_
    refine Cd.block ?_   -- 7
    refine Cd.seq ?_
    refine Cd.region ?_
    refine Ol.p mvp ?_
    refine Ol.p mvi ?_
    refine Ol.x (sp_callm (vs := [.pointer (some ⟨y2.gR, 0, none⟩), .int .i64 (q : Int)]) (Lin := runL y2 s2) (L2 := [blk g27 (.cells (wasA s (201)) 78), blk g21 (.cells x.cells.toArray 50), blk g5 (.cells f.cells.toArray 43)]) (R := fun u L => u = .tuple #[.int .i64 (s2.get (q : Int)), .bool ((s2.vars (q : Int)).isSome)] ∧ L = runL y2 s2) en_P_run_Run_Var (List.perm_append_comm (l₁ := [_, _, _])) (run_Var_cm hro2)) ?_
    rintro _ _ ⟨_, rfl, rfl, rfl⟩
    refine Ol.keep Keep.comm ?_
    refine Ol.p mvt ?_
    refine Ol.p extv ?_
    refine Ol.p extv ?_
    refine Ol.p asi ?_
    refine Ol.p asb ?_
    refine Ol.nil ?_
    refine Cd.mid (fun σ' L' => Has σ' [(4, .int .i64 fuel), (5, .pointer (some ⟨g5, 0, none⟩)), (11, .pointer (some ⟨y2.gR, 0, none⟩)), (13, .int .i64 k), (14, .int .i64 s.b), (15, .int .i64 s.i), (21, .pointer (some ⟨g21, 0, none⟩)), (23, .int .i64 df), (27, .pointer (some ⟨g27, 0, none⟩)), (29, .int .i64 q), (189, .bool false)] ∧ [blk g27 (.cells (wasA s (201)) 78), blk g21 (.cells x.cells.toArray 50), blk g5 (.cells f.cells.toArray 43)] ++ runL y2 s2 = L') ?_ ?_
    · cases h5 : !decide (s2.get (q : Int) = s.get (q : Int)) with
      | true =>
        have hqd : (q : Int) = df := hdf q (by omega) fun e => by
          have : s2.get (q : Int) = s.get (q : Int) := by unfold RSt.get; rw [e]
          simp [this] at h5
        refine Cd.region ?_
        refine Ol.p mvi ?_
        refine Ol.p mvi ?_
        refine Ol.p (ixl1 (ix := q) ar_A201_int) ?_
        refine Ol.p (ld (v := .int .i64 (s.get q)) one_int (Rd.blk (i := 0) rfl (was_get hq1 (by omega) (Nat.le_refl _)))) ?_
        refine Ol.p nei ?_
        refine Ol.p mvb ?_
        refine Ol.gp h5 mvi ?_
        refine Ol.gp h5 mvi ?_
        refine Ol.gp h5 nei ?_
        refine Ol.p (pkTb h5) ?_
        refine Ol.nil ?_
        exact ⟨⟨rfl, rfl, rfl, rfl, rfl, rfl, rfl, rfl, rfl, rfl, congrArg Value.bool (by rw [hqd]; simp), trivial⟩, rfl⟩
      | false =>
        refine Cd.region ?_
        refine Ol.p mvi ?_
        refine Ol.p mvi ?_
        refine Ol.p (ixl1 (ix := q) ar_A201_int) ?_
        refine Ol.p (ld (v := .int .i64 (s.get q)) one_int (Rd.blk (i := 0) rfl (was_get hq1 (by omega) (Nat.le_refl _)))) ?_
        refine Ol.p nei ?_
        refine Ol.p mvb ?_
        refine Ol.gn h5 ?_
        refine Ol.gn h5 ?_
        refine Ol.gn h5 ?_
        refine Ol.p (pkFb h5) ?_
        refine Ol.nil ?_
        exact ⟨⟨rfl, rfl, rfl, rfl, rfl, rfl, rfl, rfl, rfl, rfl, rfl, trivial⟩, rfl⟩
    rintro σ' _ ⟨hs', rfl⟩
    refine Cd.has hs' ?_
    refine Cd.cond rfl (fun h => nomatch h) (fun h => ?_)   -- $189
    refine Cd.skip ?_
    refine Cd.region ?_
    refine Ol.p mvi ?_
    refine Ol.p addi ?_
    refine Ol.p asi ?_
    refine Ol.nil ?_
    exact ⟨201 - (q + 1), by omega, q + 1, rfl, by omega, by omega, ⟨rfl, rfl, rfl, rfl, rfl, rfl, rfl, rfl, rfl, rfl, trivial⟩, rfl⟩
  refine Cd.exit (id := 6) ?_
  refine Cd.seq ?_
  refine Cd.region ?_
  refine Ol.p mvp ?_
  refine Ol.x (sp_callm (vs := [.pointer (some ⟨y2.gR, 0, none⟩)]) (Lin := runL y2 s2) (L2 := [blk g27 (.cells (wasA s (201)) 78), blk g21 (.cells x.cells.toArray 50), blk g5 (.cells f.cells.toArray 43)]) (R := fun u L => u = .tuple #[.int .i64 s2.b, .int .i64 s2.i] ∧ L = runL y2 s2) en_P_run_Run_At (List.perm_append_comm (l₁ := [_, _, _])) run_At_cm) ?_
  rintro _ _ ⟨_, rfl, rfl, rfl⟩
  refine Ol.keep Keep.comm ?_
  refine Ol.p mvt ?_
  refine Ol.p extv ?_
  refine Ol.p extv ?_
  refine Ol.p asi ?_
  refine Ol.p asi ?_
  refine Ol.nil ?_
  refine Cd.seq ?_
  refine Cd.seq ?_
  refine Cd.region ?_
  refine Ol.p mvp ?_
  refine Ol.x (sp_callm (vs := [.pointer (some ⟨y2.gR, 0, none⟩)]) (Lin := runL y2 s2) (L2 := [blk g27 (.cells (wasA s (201)) 78), blk g21 (.cells x.cells.toArray 50), blk g5 (.cells f.cells.toArray 43)]) (R := fun v L => ∃ z : RRes, z.of s2 ∧ v = .agg z.cells.toArray ∧ L.Perm (z.res ++ runL y2 s2)) en_P_run_Run_Result (List.perm_append_comm (l₁ := [_, _, _])) (run_Result_cm hro2 (by omega) (by omega) hra2)) ?_
  rintro _ _ ⟨Tz4, rfl, z4, hz4, rfl, hTz4⟩
  refine Ol.keep (L' := [blk g27 (.cells (wasA s (201)) 78), blk g21 (.cells x.cells.toArray 50), blk g5 (.cells f.cells.toArray 43)] ++ runL y2 s2) (keep_count z4.res fun _ q => by
    have := hTz4.count_eq q
    simp only [List.count_append] at this ⊢
    omega) ?_
  refine Ol.p (fdv fv_run_Result_0 one_api_EndKind rfl) ?_
  refine Ol.p nei ?_
  refine Ol.nil ?_
  refine Cd.cond rfl (fun h => ?_) (fun h => ?_)   -- $198
  · refine Cd.keep (L' := [blk g5 (.cells f.cells.toArray 43)] ++ runL y2 s2) (.sub (.cons _ (.cons _ (List.Sublist.refl _)))) ?_
    refine Cd.exit (id := 1) ?_
    exact ⟨y2, s2, hg3, hgb2, hro2, hR2, hU2, by omega, ⟨rfl, rfl, congrArg (fun g => Value.pointer (some ⟨g, 0, none⟩)) hg3, rfl, trivial⟩, rfl⟩
  have h0 : s2.e = 0 := by
    rw [← hz4.1]
    simpa using h
  obtain ⟨hn1, hn2⟩ := hnext h0
  refine Cd.skip ?_
  refine Cd.mid (fun σ' L' => Has σ' [(4, .int .i64 fuel), (5, .pointer (some ⟨g5, 0, none⟩)), (11, .pointer (some ⟨y2.gR, 0, none⟩)), (13, .int .i64 k), (232, .bool false)] ∧ [blk g27 (.cells (wasA s (201)) 78), blk g21 (.cells x.cells.toArray 50), blk g5 (.cells f.cells.toArray 43)] ++ runL y2 s2 = L') ?_ ?_
  · cases h5 : decide ((s.i : Int) < (x.ins.length : Int)) with
    | true =>
      have hlt : s.i < x.ins.length := by have := of_decide_eq_true h5; omega
      obtain ⟨e1, e2⟩ := hn1 hlt
      have h9 : (!decide ((s2.b : Int) = (s.b : Int))) = false := by rw [e1]; simp
      have h16 : (!decide ((s2.i : Int) = (s.i : Int) + 1)) = false := by rw [e2]; simp
      have h22 : decide ((s.i : Int) = (x.ins.length : Int)) = false := by rw [decide_eq_false_iff_not]; omega
      refine Cd.region ?_
      refine Ol.p mvi ?_
      refine Ol.p (fdl fd_api_Block_0) ?_
      refine Ol.p (ld (v := .slice x.iA x.ins.length x.iC) one_L_api_Ins (Rd.blk (i := 1) rfl rfl)) ?_
      refine Ol.p (lens sl_L_api_Ins) ?_
      refine Ol.p lsi ?_
      refine Ol.p mvb ?_
      refine Ol.gp h5 mvi ?_
      refine Ol.gp h5 mvi ?_
      refine Ol.gp h5 nei ?_
      refine Ol.gp h5 mvb ?_
      refine Ol.gp h9 mvi ?_
      refine Ol.gp h9 mvi ?_
      refine Ol.gp h9 addi ?_
      refine Ol.gp h9 nei ?_
      refine Ol.gp h5 (pkFb h9) ?_
      refine Ol.p (pkTb h5) ?_
      refine Ol.p mvb ?_
      refine Ol.gp h16 mvi ?_
      refine Ol.gp h16 (fdl fd_api_Block_0) ?_
      refine Ol.gp h16 (ld (v := .slice x.iA x.ins.length x.iC) one_L_api_Ins (Rd.blk (i := 1) rfl rfl)) ?_
      refine Ol.gp h16 (lens sl_L_api_Ins) ?_
      refine Ol.gp h16 eqi ?_
      refine Ol.gp h16 mvb ?_
      refine Ol.gn h22 ?_
      refine Ol.gn h22 ?_
      refine Ol.gn h22 ?_
      refine Ol.gu ?_
      refine Ol.gu ?_
      refine Ol.gu ?_
      refine Ol.gu ?_
      refine Ol.gu ?_
      refine Ol.gn h22 ?_
      refine Ol.gp h16 (pkFb h22) ?_
      refine Ol.p (pkFb h16) ?_
      refine Ol.nil ?_
      exact ⟨⟨rfl, rfl, rfl, rfl, rfl, trivial⟩, rfl⟩
    | false =>
      have hge : x.ins.length ≤ s.i := by have := of_decide_eq_false h5; omega
      obtain ⟨e1, e2⟩ := hn2 hge
      have h16 : false = false := rfl
      have h22 : decide ((s.i : Int) = (x.ins.length : Int)) = true := by rw [decide_eq_true_iff]; omega
      have h25 : (!decide ((s2.i : Int) = 0)) = false := by rw [e1]; simp
      refine Cd.region ?_
      refine Ol.p mvi ?_
      refine Ol.p (fdl fd_api_Block_0) ?_
      refine Ol.p (ld (v := .slice x.iA x.ins.length x.iC) one_L_api_Ins (Rd.blk (i := 1) rfl rfl)) ?_
      refine Ol.p (lens sl_L_api_Ins) ?_
      refine Ol.p lsi ?_
      refine Ol.p mvb ?_
      refine Ol.gn h5 ?_
      refine Ol.gn h5 ?_
      refine Ol.gn h5 ?_
      refine Ol.gn h5 ?_
      refine Ol.gu ?_
      refine Ol.gu ?_
      refine Ol.gu ?_
      refine Ol.gu ?_
      refine Ol.gn h5 ?_
      refine Ol.p (pkFb h5) ?_
      refine Ol.p mvb ?_
      refine Ol.gp h16 mvi ?_
      refine Ol.gp h16 (fdl fd_api_Block_0) ?_
      refine Ol.gp h16 (ld (v := .slice x.iA x.ins.length x.iC) one_L_api_Ins (Rd.blk (i := 1) rfl rfl)) ?_
      refine Ol.gp h16 (lens sl_L_api_Ins) ?_
      refine Ol.gp h16 eqi ?_
      refine Ol.gp h16 mvb ?_
      refine Ol.gp h22 mvi ?_
      refine Ol.gp h22 nei ?_
      refine Ol.gp h22 mvb ?_
      refine Ol.gp h25 (fdl fd_api_Block_1) ?_
      refine Ol.gp h25 (ldp (k := 0 + 1) (vs := x.term.cells.toArray) ag_api_Term (i := 1) rfl rfl (fun j u hu => by rw [Nat.zero_add, Nat.add_comm]; simpa [RBlk.cells] using hu)) ?_
      refine Ol.gp h25 mvi ?_
      refine Ol.gs h25 (cl en_law08_goes (fun M w' hh => law08_goes_ct (t := x.term) e2)) ?_
      refine Ol.gp h25 noti ?_
      refine Ol.gp h22 (pkFb h25) ?_
      refine Ol.gp h16 (pkTb h22) ?_
      refine Ol.p (pkFb h16) ?_
      refine Ol.nil ?_
      exact ⟨⟨rfl, rfl, rfl, rfl, rfl, trivial⟩, rfl⟩
  rintro σ' _ ⟨hs', rfl⟩
  refine Cd.has hs' ?_
  refine Cd.cond rfl (fun h => nomatch h) (fun h => ?_)   -- $232
  refine Cd.keep (L' := [blk g5 (.cells f.cells.toArray 43)] ++ runL y2 s2) (.sub (.cons _ (.cons _ (List.Sublist.refl _)))) ?_
  refine Cd.skip ?_
  exact ⟨y2, s2, hg3, hgb2, hro2, hR2, hU2, by omega, ⟨rfl, rfl, congrArg (fun g => Value.pointer (some ⟨g, 0, none⟩)) hg3, rfl, trivial⟩, rfl⟩
end
end Go.Proofs.Ytcojedoejpcolaa

/- Lists of structs that came in, opened. -/
namespace Go.Proofs.Ytcojedoejpcolaa
set_option linter.unusedVariables false
open Go Go.ChangeShapes Go.WideShapes Go.ChangeAt Go.RowKit
set_option maxRecDepth 100000

section
variable {H : Type} {enc : TypeId × Value → H} {P : Program} {w : World}
/-- What came in is not endless. -/
def Lean_ (P : Program) (t : TypeId) (d : DataW H) : Prop := ∀ n ∈ d.weights P t, n ≤ reachBytes
theorem weightsAll_mem {P : Program} {e : TypeId} {d : DataW H} {n : Nat} (hn : n ∈ d.weights P e) : ∀ {l : List (DataW H)}, d ∈ l → n ∈ DataW.weightsAll P e l
  | x :: l, h => by
    simp only [DataW.weightsAll, List.mem_append]
    rcases List.mem_cons.1 h with rfl | h
    · exact .inl hn
    · exact .inr (weightsAll_mem hn h)
theorem lean_slice {t e : TypeId} {a b : List (DataW H)} (ht : P.underlying t = some (.slice e)) (h : Lean_ P t (.slice a b)) : (a.length + b.length) * P.bytesOf e ≤ reachBytes ∧ ∀ d ∈ a, Lean_ P e d := by
  unfold Lean_ at h
  simp only [DataW.weights, ht, List.mem_cons, List.mem_append] at h
  exact ⟨h _ (.inl rfl), fun d hd n hn => h n (.inr (.inl (weightsAll_mem hn hd)))⟩
theorem open_list {α : Type} {cf : α → List Value} {Good : α → Prop} {t e : TypeId} {c fuel : Nat} {cs : List Value} {x : DataW H × List MemPlace} (ht : P.underlying t = some (.slice e)) (hc : P.cellsOf e = c) (hc0 : 0 < c) (hby : 0 < P.bytesOf e)
    (hcf : ∀ a, (cf a).length = c)
    (hel : ∀ n cs y, DataW.trod enc P w 0 (fun _ => true) true n e cs = some y → Lean_ P e y.1 → ∃ a : α, cs = cf a ∧ Good a)
    (h : DataW.trod enc P w 0 (fun _ => true) true fuel t cs = some x) (hw : Lean_ P t x.1) :
    ∃ (A : Option Addr) (cp : Nat) (l : List α), cs = [.slice A l.length cp] ∧ l.length ≤ cp ∧ Reads w w.heap.size c A l.length (l.flatMap cf) ∧ (∀ a ∈ l, Good a) ∧ l.length < 2 ^ 50 := by
  rcases Go.Deep.open_slice ht h with ⟨rfl, rfl⟩ | ⟨a, len, cap, m, n, D, Pl, rfl, _, hl, _, hm, rfl, hx⟩
  · exact ⟨none, 0, [], rfl, Nat.le_refl _, ⟨by simp, fun h => absurd h (by simp)⟩, by simp, by simp⟩
  · have hm : m = cap := by simpa using hm
    subst hm
    obtain ⟨hsz, hws⟩ := lean_slice ht hw
    have hsz : len < 2 ^ 50 := by
      simp only [List.length_map, List.length_range] at hsz
      have : reachBytes < 2 ^ 47 := reachBytes_lt
      have h2 : len + (m - len) ≤ (len + (m - len)) * P.bytesOf e := Nat.le_mul_of_pos_right _ hby
      omega
    have hex : ∀ i, i < len → ∃ v : α, Good v ∧ w.cells? 0 (a.add (i * c)) c = some (cf v) := fun i hi => by
      obtain ⟨cs', h1, h2⟩ := hx i (by omega)
      obtain ⟨v, rfl, hg⟩ := hel n cs' _ h2 (hws _ (List.mem_map.2 ⟨i, by simpa using hi, rfl⟩))
      rw [hc] at h1
      exact ⟨v, hg, h1⟩
    have hL : ∃ l : List α, l.length = len ∧ ∀ i v, l[i]? = some v → Good v ∧ w.cells? 0 (a.add (i * c)) c = some (cf v) := by
      clear hws hx hw h hm
      have : ∀ k, k ≤ len → ∃ l : List α, l.length = k ∧ ∀ i v, l[i]? = some v → Good v ∧ w.cells? 0 (a.add (i * c)) c = some (cf v) := by
        intro k
        induction k with
        | zero => exact fun _ => ⟨[], rfl, fun i v h => by simp at h⟩
        | succ k ih =>
          intro hk
          obtain ⟨l, h1, h2⟩ := ih (by omega)
          obtain ⟨v, hv⟩ := hex k (by omega)
          refine ⟨l ++ [v], by simp [h1], fun i u hu => ?_⟩
          rw [List.getElem?_append] at hu
          split at hu
          · exact h2 i u hu
          · rename_i hlt
            have hi : i - l.length = 0 := by
              have := (List.getElem?_eq_some_iff.1 hu).1
              simp at this; omega
            rw [hi] at hu
            simp at hu
            subst hu
            have : i = k := by omega
            rw [this]; exact hv
      exact this len (Nat.le_refl _)
    obtain ⟨l, hll, hg⟩ := hL
    have hcell : ∀ i v j, l[i]? = some v → j < c → w.cell? (a.add (i * c + j)) = (cf v)[j]? := fun i v j hv hj => by
      have := (World.cells?_some (hg i v hv).2).2.2 j hj
      rw [Go.Deep.add_add] at this
      exact this
    refine ⟨some a, m, l, by rw [hll], by omega, ⟨by rw [flat_len hcf], fun hn => ⟨a, rfl, ?_, fun j u hu => ?_⟩⟩, fun v hv => ?_, by omega⟩
    · obtain ⟨v, hv⟩ : ∃ v, l[0]? = some v := ⟨_, List.getElem?_eq_getElem hn⟩
      have h0 := hcell 0 v 0 hv hc0
      have : (cf v)[0]? = some ((cf v)[0]'(by rw [hcf]; exact hc0)) := List.getElem?_eq_getElem _
      rw [this] at h0
      have := World.block_lt_of_cell? w _ h0
      simpa [Addr.add] using this
    · have hjl : j < l.length * c := by
        have := (List.getElem?_eq_some_iff.1 hu).1
        rwa [flat_len hcf] at this
      have hd : j / c < l.length := Nat.div_lt_of_lt_mul (by rw [Nat.mul_comm]; exact hjl)
      have hr : j % c < c := Nat.mod_lt _ hc0
      have hj : j = j / c * c + j % c := by rw [Nat.mul_comm]; exact (Nat.div_add_mod j c).symm
      have hv : l[j / c]? = some l[j / c] := List.getElem?_eq_getElem hd
      rw [hj, flat_get hcf _ _ _ _ hv hr] at hu
      rw [hj, hcell _ _ _ hv hr]
      exact hu
    · obtain ⟨i, hi⟩ := List.mem_iff_getElem?.1 hv
      exact (hg i v hi).1
end
end Go.Proofs.Ytcojedoejpcolaa

/- A function of the program's that came in, opened. -/
namespace Go.Proofs.Ytcojedoejpcolaa
set_option linter.unusedVariables false
open Go Go.ChangeShapes Go.WideShapes Go.ChangeAt Go.RowKit
set_option maxRecDepth 100000

theorem lean_struct {H : Type} {P : Program} {t u : TypeId} {fs : Array Field} {parts : List (DataW H)} {d : DataW H} {j : Nat} (ht : P.underlying t = some (.struct fs)) (h : Lean_ P t (.agg parts)) (hu : (fs.toList.map (·.type))[j]? = some u) (hd : parts[j]? = some d) : Lean_ P u d := by
  unfold Lean_ at h ⊢
  simp only [DataW.weights, ht] at h
  exact fun n hn => h n (DataW.weights_mem_each hu hd n hn)
theorem list8 {α : Type} {l : List α} (h : l.length = 8) : ∃ a b c d e f g i, l = [a, b, c, d, e, f, g, i] := by
  match l, h with
  | [a, b, c, d, e, f, g, i], _ => exact ⟨a, b, c, d, e, f, g, i, rfl⟩
theorem i64_wf {n : Int} (h : (Lit.int .i64 n).wf = true) : -9223372036854775808 ≤ n ∧ n ≤ 9223372036854775807 := by
  have := i64_of_wf h
  unfold I64 at this; omega
theorem lean_each {H : Type} {P : Program} {ts : List TypeId} {ds : List (DataW H)} (h : (DataW.weightsEach P ts ds).all (· ≤ reachBytes) = true) {j : Nat} {t : TypeId} {d : DataW H} (ht : ts[j]? = some t) (hd : ds[j]? = some d) : Lean_ P t d := fun n hn => by
  simpa using List.all_eq_true.1 h n (DataW.weights_mem_each ht hd n hn)
section
theorem cells_Ins : Try.prog.cellsOf 25 = 8 := by kernel_rfl
theorem cells_Op : Try.prog.cellsOf 22 = 1 := by kernel_rfl
theorem cells_Lint : Try.prog.cellsOf 23 = 1 := by kernel_rfl
def IR (n : Int) : Prop := -9223372036854775808 ≤ n ∧ n ≤ 9223372036854775807
def GoodI (W : World) (i : RIns) : Prop := (∀ n ∈ [i.op, i.dst, i.a, i.b, i.imm, i.callee, i.many], IR n) ∧ i.args.length < 2 ^ 50 ∧ i.args.length ≤ i.aC ∧ (∀ n ∈ i.args, IR n) ∧ Reads W W.heap.size 1 i.aA i.args.length (ints i.args)
theorem flat_ints : ∀ l : List Int, l.flatMap (fun n : Int => [Value.int .i64 n]) = ints l
  | [] => rfl
  | a :: l => by rw [List.flatMap_cons, flat_ints l]; rfl
section
variable {H : Type} {enc : TypeId × Value → H} {W : World}
theorem open_intl {n : Nat} {cs : List Value} {y : DataW H × List MemPlace} (h : DataW.trod enc Try.prog W 0 (fun _ => true) true n 23 cs = some y) (hw : Lean_ Try.prog 23 y.1) :
    ∃ (A : Option Addr) (cp : Nat) (l : List Int), cs = [.slice A l.length cp] ∧ l.length ≤ cp ∧ Reads W W.heap.size 1 A l.length (ints l) ∧ (∀ a ∈ l, IR a) ∧ l.length < 2 ^ 50 := by
  obtain ⟨A, cp, l, h1, h2, h3, h4, h5⟩ := open_list (cf := fun n : Int => [.int .i64 n]) (Good := IR) Try.underlying23 cells_int (by decide) (by rw [bytes_int]; decide) (fun _ => rfl) (fun n cs y h _ => by
    obtain ⟨z, rfl, rfl, hw⟩ := DataW.trod_int Try.underlying3 h
    exact ⟨z, rfl, i64_wf hw⟩) h hw
  refine ⟨A, cp, l, h1, h2, ?_, h4, h5⟩
  rw [flat_ints] at h3
  exact h3
theorem open_ins {n : Nat} {cs : List Value} {y : DataW H × List MemPlace} (h : DataW.trod enc Try.prog W 0 (fun _ => true) true n 25 cs = some y) (hw : Lean_ Try.prog 25 y.1) : ∃ i : RIns, cs = i.cells ∧ GoodI W i := by
  obtain ⟨xs, m, _, rfl, hl, hlen, hf⟩ := DataW.trod_struct Try.underlying25 h
  simp only [List.size_toArray, List.length_cons, List.length_nil] at hlen
  obtain ⟨y0, y1, y2, y3, y4, y5, y6, y7, rfl⟩ := list8 hlen
  have hl8 : cs.length = 8 := hl.trans cells_Ins
  obtain ⟨c0, c1, c2, c3, c4, c5, c6, c7, rfl⟩ := list8 hl8
  have f0 : DataW.trod enc Try.prog W 0 (fun _ => true) true m 22 [c0] = some y0 := by
    have q := hf 0 _ rfl
    change DataW.trod enc Try.prog W 0 (fun _ => true) true m 22 (List.take (Try.prog.cellsOf 22) (List.drop 0 [c0, c1, c2, c3, c4, c5, c6, c7])) = some y0 at q
    rw [cells_Op] at q
    exact q
  have f1 : DataW.trod enc Try.prog W 0 (fun _ => true) true m 3 [c1] = some y1 := by
    have q := hf 1 _ rfl
    change DataW.trod enc Try.prog W 0 (fun _ => true) true m 3 (List.take (Try.prog.cellsOf 3) (List.drop 1 [c0, c1, c2, c3, c4, c5, c6, c7])) = some y1 at q
    rw [cells_int] at q
    exact q
  have f2 : DataW.trod enc Try.prog W 0 (fun _ => true) true m 3 [c2] = some y2 := by
    have q := hf 2 _ rfl
    change DataW.trod enc Try.prog W 0 (fun _ => true) true m 3 (List.take (Try.prog.cellsOf 3) (List.drop 2 [c0, c1, c2, c3, c4, c5, c6, c7])) = some y2 at q
    rw [cells_int] at q
    exact q
  have f3 : DataW.trod enc Try.prog W 0 (fun _ => true) true m 3 [c3] = some y3 := by
    have q := hf 3 _ rfl
    change DataW.trod enc Try.prog W 0 (fun _ => true) true m 3 (List.take (Try.prog.cellsOf 3) (List.drop 3 [c0, c1, c2, c3, c4, c5, c6, c7])) = some y3 at q
    rw [cells_int] at q
    exact q
  have f4 : DataW.trod enc Try.prog W 0 (fun _ => true) true m 3 [c4] = some y4 := by
    have q := hf 4 _ rfl
    change DataW.trod enc Try.prog W 0 (fun _ => true) true m 3 (List.take (Try.prog.cellsOf 3) (List.drop 4 [c0, c1, c2, c3, c4, c5, c6, c7])) = some y4 at q
    rw [cells_int] at q
    exact q
  have f5 : DataW.trod enc Try.prog W 0 (fun _ => true) true m 3 [c5] = some y5 := by
    have q := hf 5 _ rfl
    change DataW.trod enc Try.prog W 0 (fun _ => true) true m 3 (List.take (Try.prog.cellsOf 3) (List.drop 5 [c0, c1, c2, c3, c4, c5, c6, c7])) = some y5 at q
    rw [cells_int] at q
    exact q
  have f6 : DataW.trod enc Try.prog W 0 (fun _ => true) true m 23 [c6] = some y6 := by
    have q := hf 6 _ rfl
    change DataW.trod enc Try.prog W 0 (fun _ => true) true m 23 (List.take (Try.prog.cellsOf 23) (List.drop 6 [c0, c1, c2, c3, c4, c5, c6, c7])) = some y6 at q
    rw [cells_Lint] at q
    exact q
  have f7 : DataW.trod enc Try.prog W 0 (fun _ => true) true m 3 [c7] = some y7 := by
    have q := hf 7 _ rfl
    change DataW.trod enc Try.prog W 0 (fun _ => true) true m 3 (List.take (Try.prog.cellsOf 3) (List.drop 7 [c0, c1, c2, c3, c4, c5, c6, c7])) = some y7 at q
    rw [cells_int] at q
    exact q
  obtain ⟨z0, e0, _, w0⟩ := DataW.trod_int Try.underlying22 f0
  obtain ⟨z1, e1, _, w1⟩ := DataW.trod_int Try.underlying3 f1
  obtain ⟨z2, e2, _, w2⟩ := DataW.trod_int Try.underlying3 f2
  obtain ⟨z3, e3, _, w3⟩ := DataW.trod_int Try.underlying3 f3
  obtain ⟨z4, e4, _, w4⟩ := DataW.trod_int Try.underlying3 f4
  obtain ⟨z5, e5, _, w5⟩ := DataW.trod_int Try.underlying3 f5
  obtain ⟨z7, e7, _, w7⟩ := DataW.trod_int Try.underlying3 f7
  obtain ⟨A, cp, l, e6, h2, h3, h4, h5⟩ := open_intl f6 (lean_struct Try.underlying25 (parts := [y0.1, y1.1, y2.1, y3.1, y4.1, y5.1, y6.1, y7.1]) hw (j := 6) rfl rfl)
  simp only [List.cons.injEq, and_true] at e0 e1 e2 e3 e4 e5 e6 e7
  subst e0 e1 e2 e3 e4 e5 e6 e7
  refine ⟨⟨z0, z1, z2, z3, z4, z5, A, cp, l, z7⟩, rfl, ?_, h5, h2, h4, h3⟩
  intro n hn
  simp only [List.mem_cons, List.not_mem_nil, or_false] at hn
  rcases hn with rfl | rfl | rfl | rfl | rfl | rfl | rfl
  all_goals exact i64_wf (by assumption)
theorem list4 {α : Type} {l : List α} (h : l.length = 4) : ∃ a b c d, l = [a, b, c, d] := by
  match l, h with
  | [a, b, c, d], _ => exact ⟨a, b, c, d, rfl⟩
theorem list5 {α : Type} {l : List α} (h : l.length = 5) : ∃ a b c d e, l = [a, b, c, d, e] := by
  match l, h with
  | [a, b, c, d, e], _ => exact ⟨a, b, c, d, e, rfl⟩
theorem list3 {α : Type} {l : List α} (h : l.length = 3) : ∃ a b c, l = [a, b, c] := by
  match l, h with
  | [a, b, c], _ => exact ⟨a, b, c, rfl⟩
theorem list2 {α : Type} {l : List α} (h : l.length = 2) : ∃ a b, l = [a, b] := by
  match l, h with
  | [a, b], _ => exact ⟨a, b, rfl⟩
theorem cells_Term : Try.prog.cellsOf 29 = 4 := by kernel_rfl
theorem cells_Kind : Try.prog.cellsOf 26 = 1 := by kernel_rfl
theorem cells_A2 : Try.prog.cellsOf 27 = 2 := by kernel_rfl
theorem cells_Block : Try.prog.cellsOf 50 = 5 := by kernel_rfl
theorem cells_Func : Try.prog.cellsOf 43 = 2 := by kernel_rfl
theorem cells_LIns : Try.prog.cellsOf 48 = 1 := by kernel_rfl
theorem cells_LBlk : Try.prog.cellsOf 41 = 1 := by kernel_rfl
theorem open_term {n : Nat} {cs : List Value} {y : DataW H × List MemPlace} (h : DataW.trod enc Try.prog W 0 (fun _ => true) true n 29 cs = some y) : ∃ t : Tm, cs = t.cells ∧ ∀ n ∈ [t.kind, t.a, t.t0, t.t1], IR n := by
  obtain ⟨xs, m, _, rfl, hl, hlen, hf⟩ := DataW.trod_struct Try.underlying29 h
  simp only [List.size_toArray, List.length_cons, List.length_nil] at hlen
  obtain ⟨y0, y1, y2, rfl⟩ := list3 hlen
  have hl4 : cs.length = 4 := hl.trans cells_Term
  obtain ⟨c0, c1, c2, c3, rfl⟩ := list4 hl4
  have f0 : DataW.trod enc Try.prog W 0 (fun _ => true) true m 26 [c0] = some y0 := by
    have q := hf 0 _ rfl
    change DataW.trod enc Try.prog W 0 (fun _ => true) true m 26 (List.take (Try.prog.cellsOf 26) (List.drop 0 [c0, c1, c2, c3])) = some y0 at q
    rw [cells_Kind] at q
    exact q
  have f1 : DataW.trod enc Try.prog W 0 (fun _ => true) true m 3 [c1] = some y1 := by
    have q := hf 1 _ rfl
    change DataW.trod enc Try.prog W 0 (fun _ => true) true m 3 (List.take (Try.prog.cellsOf 3) (List.drop 1 [c0, c1, c2, c3])) = some y1 at q
    rw [cells_int] at q
    exact q
  have f2 : DataW.trod enc Try.prog W 0 (fun _ => true) true m 27 [c2, c3] = some y2 := by
    have q := hf 2 _ rfl
    change DataW.trod enc Try.prog W 0 (fun _ => true) true m 27 (List.take (Try.prog.cellsOf 27) (List.drop 2 [c0, c1, c2, c3])) = some y2 at q
    rw [cells_A2] at q
    exact q
  obtain ⟨xs, m2, _, e2, hl2, hlen2, hf2⟩ := DataW.trod_array Try.underlying27 f2
  obtain ⟨y3, y4, rfl⟩ := list2 hlen2
  have g0 : DataW.trod enc Try.prog W 0 (fun _ => true) true m2 3 [c2] = some y3 := by
    have q := hf2 0 (by decide)
    rw [cells_int] at q
    exact q
  have g1 : DataW.trod enc Try.prog W 0 (fun _ => true) true m2 3 [c3] = some y4 := by
    have q := hf2 1 (by decide)
    rw [cells_int] at q
    exact q
  obtain ⟨z0, e0, _, w0⟩ := DataW.trod_int Try.underlying26 f0
  obtain ⟨z1, e1, _, w1⟩ := DataW.trod_int Try.underlying3 f1
  obtain ⟨z2, e2, _, w2⟩ := DataW.trod_int Try.underlying3 g0
  obtain ⟨z3, e3, _, w3⟩ := DataW.trod_int Try.underlying3 g1
  simp only [List.cons.injEq, and_true] at e0 e1 e2 e3
  subst e0 e1 e2 e3
  refine ⟨⟨z0, z1, z2, z3⟩, rfl, ?_⟩
  intro n hn
  simp only [List.mem_cons, List.not_mem_nil, or_false] at hn
  rcases hn with rfl | rfl | rfl | rfl
  all_goals exact i64_wf (by assumption)
def GoodB (W : World) (b : RBlk) : Prop := (∀ n ∈ [b.term.kind, b.term.a, b.term.t0, b.term.t1], IR n) ∧ b.ins.length < 2 ^ 50 ∧ b.ins.length ≤ b.iC ∧ (∀ i ∈ b.ins, GoodI W i) ∧ Reads W W.heap.size 8 b.iA b.ins.length (b.ins.flatMap RIns.cells)
theorem open_block {n : Nat} {cs : List Value} {y : DataW H × List MemPlace} (h : DataW.trod enc Try.prog W 0 (fun _ => true) true n 50 cs = some y) (hw : Lean_ Try.prog 50 y.1) : ∃ b : RBlk, cs = b.cells ∧ GoodB W b := by
  obtain ⟨xs, m, _, rfl, hl, hlen, hf⟩ := DataW.trod_struct Try.underlying50 h
  simp only [List.size_toArray, List.length_cons, List.length_nil] at hlen
  obtain ⟨y0, y1, rfl⟩ := list2 hlen
  have hl5 : cs.length = 5 := hl.trans cells_Block
  obtain ⟨c0, c1, c2, c3, c4, rfl⟩ := list5 hl5
  have f0 : DataW.trod enc Try.prog W 0 (fun _ => true) true m 48 [c0] = some y0 := by
    have q := hf 0 _ rfl
    change DataW.trod enc Try.prog W 0 (fun _ => true) true m 48 (List.take (Try.prog.cellsOf 48) (List.drop 0 [c0, c1, c2, c3, c4])) = some y0 at q
    rw [cells_LIns] at q
    exact q
  have f1 : DataW.trod enc Try.prog W 0 (fun _ => true) true m 29 [c1, c2, c3, c4] = some y1 := by
    have q := hf 1 _ rfl
    change DataW.trod enc Try.prog W 0 (fun _ => true) true m 29 (List.take (Try.prog.cellsOf 29) (List.drop 1 [c0, c1, c2, c3, c4])) = some y1 at q
    rw [cells_Term] at q
    exact q
  obtain ⟨t, e1, ht⟩ := open_term f1
  obtain ⟨A, cp, l, e0, h1, h2, h3, h4⟩ := open_list (cf := RIns.cells) (Good := GoodI W) Try.underlying48 cells_Ins (by decide) (of_decide_eq_true (by kernel_rfl)) RIns.len (fun n cs y h hw => open_ins h hw) f0 (lean_struct Try.underlying50 (parts := [y0.1, y1.1]) hw (j := 0) rfl rfl)
  simp only [List.cons.injEq, and_true] at e0
  subst e0
  rw [e1]
  exact ⟨⟨A, cp, l, t⟩, rfl, ht, h4, h1, h3, h2⟩
theorem reads_func {v : Value} {d : DataW H} {p : List MemPlace} (h : DataW.Trod enc Try.prog W 0 (fun _ => true) true 43 v d p) (hv : ∃ cs, v = .agg cs) (hw : Lean_ Try.prog 43 d) : ∃ f : RFun, v = f.val ∧ FunAt W W.heap.size f ∧ Fit f := by
  obtain ⟨fuel, h⟩ := h
  obtain ⟨cs, rfl⟩ := hv
  obtain ⟨xs, m, _, e, hl, hlen, hf⟩ := DataW.trod_struct Try.underlying43 h
  simp only [List.size_toArray, List.length_cons, List.length_nil] at hlen
  obtain ⟨y0, y1, rfl⟩ := list2 hlen
  have hl2 : cs.toList.length = 2 := by simpa [Value.cells] using hl.trans cells_Func
  obtain ⟨c0, c1, hcs⟩ := list2 hl2
  have ed : d = .agg [y0.1, y1.1] := congrArg Prod.fst e
  subst ed
  simp only [Value.cells, hcs] at hf
  have f0 : DataW.trod enc Try.prog W 0 (fun _ => true) true m 23 [c0] = some y0 := by
    have q := hf 0 _ rfl
    change DataW.trod enc Try.prog W 0 (fun _ => true) true m 23 (List.take (Try.prog.cellsOf 23) (List.drop 0 [c0, c1])) = some y0 at q
    rw [cells_Lint] at q
    exact q
  have f1 : DataW.trod enc Try.prog W 0 (fun _ => true) true m 41 [c1] = some y1 := by
    have q := hf 1 _ rfl
    change DataW.trod enc Try.prog W 0 (fun _ => true) true m 41 (List.take (Try.prog.cellsOf 41) (List.drop 1 [c0, c1])) = some y1 at q
    rw [cells_LBlk] at q
    exact q
  obtain ⟨A, cp, l, e0, h1, h2, h3, h4⟩ := open_intl f0 (lean_struct Try.underlying43 (parts := [y0.1, y1.1]) hw (j := 0) rfl rfl)
  obtain ⟨A2, cp2, l2, e1, k1, k2, k3, k4⟩ := open_list (cf := RBlk.cells) (Good := GoodB W) Try.underlying41 cells_Block (by decide) (of_decide_eq_true (by kernel_rfl)) RBlk.len (fun n cs y h hw => open_block h hw) f1 (lean_struct Try.underlying43 (parts := [y0.1, y1.1]) hw (j := 1) rfl rfl)
  simp only [List.cons.injEq, and_true] at e0 e1
  subst e0 e1
  refine ⟨⟨A, cp, l, A2, cp2, l2⟩, ?_, ⟨h2, k2, fun b hb => (k3 b hb).2.2.2.2, fun b hb i hi => ((k3 b hb).2.2.2.1 i hi).2.2.2.2⟩, ?_⟩
  · have : cs = [Value.slice A l.length cp, .slice A2 l2.length cp2].toArray := by rw [← hcs]
    rw [this]; rfl
  · exact ⟨h3, h4, k4, h1, k1, fun b hb => (k3 b hb).2.1, fun b hb => (k3 b hb).2.2.1, fun b hb => (k3 b hb).1, fun b hb i hi => ((k3 b hb).2.2.2.1 i hi).1, fun b hb i hi => ((k3 b hb).2.2.2.1 i hi).2.1, fun b hb i hi => ((k3 b hb).2.2.2.1 i hi).2.2.1, fun b hb i hi => ((k3 b hb).2.2.2.1 i hi).2.2.2.1⟩
end
end
end Go.Proofs.Ytcojedoejpcolaa

/- RunSafe: for every input that can be read, the law RunSafe returns true and its arguments read as before. Conditions: the row. -/
namespace Go.Proofs.Ytcojedoejpcolaa
set_option linter.unusedVariables false
open Go Go.ChangeShapes Go.WideShapes Go.ChangeAt Go.RowKit
set_option maxRecDepth 100000

theorem runSafe_lifted (os : Os) (started : os.Started) (H : Type) (enc : TypeId × Value → H) :
    ReturnsInHanded {} Try.checked os 9 .any (Rows.runSafeSpec.pre6 enc Try.prog Try.f9 Rows.runSafeRow.domain false) (Rows.runSafeSpec.post enc Try.prog Try.f9 false true false false) := by
  refine returnsInHanded_of_change_sized (C := Try.checked) own_ started (by kernel_rfl) Try.func9
    (ChangeSpec.witness6 (enc := enc) (C := Try.checked) false ⟨#[], #[.agg #[.slice none 0 0, .slice none 0 0], .slice none 0 0, .slice none 0 0, .slice none 0 0, .int .i64 0], []⟩ 8 (by kernel_rfl) (by kernel_rfl) (by kernel_rfl) (by kernel_rfl)) ?_
  intro W base args ds gs before hval0 hW _ hsz0 _
  have hval : ∀ (j : Nat) t v, Try.f9.params[j]? = some t → args[j]? = some v → Value.okWide Try.prog W .any base t v := hval0
  have hW' := hW
  obtain ⟨p, q, hA0, hV, rfl, hfz, hnd⟩ := hW
  have hA : DataW.TrodAll enc Try.prog W 0 (fun _ => true) true Try.f9.params.toList args.toList ds p := hA0
  have hsz : (DataW.weightsEach Try.prog (Try.f9.params.toList ++ Rows.runSafeSpec.plain.varTypes Try.prog) (ds ++ gs)).all (· ≤ reachBytes) = true := hsz0
  rw [Try.params9] at hA hval hsz
  obtain ⟨v0, vs0, d0, ds0, p0, q0, hargs, rfl, rfl, h0, r0⟩ := trodAll_cons hA
  obtain ⟨v1, vs1, d1, ds1, p1, q1, rfl, rfl, rfl, h1, r1⟩ := trodAll_cons r0
  obtain ⟨v2, vs2, d2, ds2, p2, q2, rfl, rfl, rfl, h2, r2⟩ := trodAll_cons r1
  obtain ⟨v3, vs3, d3, ds3, p3, q3, rfl, rfl, rfl, h3, r3⟩ := trodAll_cons r2
  obtain ⟨v4, vs4, d4, ds4, p4, q4, rfl, rfl, rfl, h4, r4⟩ := trodAll_cons r3
  obtain ⟨rfl, rfl, rfl⟩ := trodAll_nil r4
  obtain rfl : args = #[v0, v1, v2, v3, v4] := by cases args; simp_all
  obtain ⟨rfl, rfl⟩ := trodVars_none hV
  have k0 := h0
  have lt0 : ∀ x ∈ p0, x.block < W.heap.size := by obtain ⟨m, hm⟩ := k0; exact DataW.trod_lt m _ _ _ hm
  obtain ⟨z0, rfl, x0, y0⟩ := reads_func h0 (Exists.imp (fun _ h => h.1) (okWide_struct Try.underlying43 (hval 0 43 v0 rfl rfl))) (lean_each hsz (j := 0) rfl rfl)
  obtain ⟨a1, len1, cap1, rfl⟩ := okWide_slice Try.underlying23 (hval 1 23 v1 rfl rfl)
  have k1 := h1
  have lt1 : ∀ x ∈ p1, x.block < W.heap.size := by obtain ⟨m, hm⟩ := k1; exact DataW.trod_lt m _ _ _ hm
  obtain ⟨z1, rfl, c1, x1, i1, hd1⟩ := reads_ints h1
  have l1 : z1.length < 2 ^ 60 := by
    rcases hd1 with h00 | ⟨elems, spare, rfl, hle⟩
    · omega
    · have := sized_slice hsz (j := 1) (t := 23) (e := 3) rfl rfl Try.underlying23
      rw [bytes_int] at this
      unfold reachBytes at this
      omega
  obtain ⟨a2, len2, cap2, rfl⟩ := okWide_slice Try.underlying23 (hval 2 23 v2 rfl rfl)
  have k2 := h2
  have lt2 : ∀ x ∈ p2, x.block < W.heap.size := by obtain ⟨m, hm⟩ := k2; exact DataW.trod_lt m _ _ _ hm
  obtain ⟨z2, rfl, c2, x2, i2, hd2⟩ := reads_ints h2
  have l2 : z2.length < 2 ^ 60 := by
    rcases hd2 with h00 | ⟨elems, spare, rfl, hle⟩
    · omega
    · have := sized_slice hsz (j := 2) (t := 23) (e := 3) rfl rfl Try.underlying23
      rw [bytes_int] at this
      unfold reachBytes at this
      omega
  obtain ⟨a3, len3, cap3, rfl⟩ := okWide_slice Try.underlying23 (hval 3 23 v3 rfl rfl)
  have k3 := h3
  have lt3 : ∀ x ∈ p3, x.block < W.heap.size := by obtain ⟨m, hm⟩ := k3; exact DataW.trod_lt m _ _ _ hm
  obtain ⟨z3, rfl, c3, x3, i3, hd3⟩ := reads_ints h3
  have l3 : z3.length < 2 ^ 60 := by
    rcases hd3 with h00 | ⟨elems, spare, rfl, hle⟩
    · omega
    · have := sized_slice hsz (j := 3) (t := 23) (e := 3) rfl rfl Try.underlying23
      rw [bytes_int] at this
      unfold reachBytes at this
      omega
  obtain ⟨z4, rfl, rfl, rfl, wf4⟩ := open_int Try.underlying3 (hval 4 3 v4 rfl rfl) h4
  have i4 := i64_of_wf wf4
  clear hA0 hval0
  refine ((law08_RunSafe_ct x0 y0 x1 l1 x2 l2 x3 l3).calls).mono fun e W' ⟨v, he, L, hh, hv, _⟩ => ?_
  subst hv
  subst he
  have bel := hh.below
  exact ⟨_, rfl, _, _, _, [], _, [], hW', trodAll_mk1 (shut_bool Try.underlying4 _), (trodAll_cons_mk (Below.trod laidOut_ (by kernel_rfl) (of_decide_eq_true (by kernel_rfl)) k0 bel lt0) (trodAll_cons_mk (Below.trod laidOut_ (by kernel_rfl) (of_decide_eq_true (by kernel_rfl)) k1 bel lt1) (trodAll_cons_mk (Below.trod laidOut_ (by kernel_rfl) (of_decide_eq_true (by kernel_rfl)) k2 bel lt2) (trodAll_cons_mk (Below.trod laidOut_ (by kernel_rfl) (of_decide_eq_true (by kernel_rfl)) k3 bel lt3) (trodAll_cons_mk (shut_int Try.underlying3 wf4) trodAll_mk0))))), rfl, bel.frame _, fun h => by cases h⟩
theorem runSafe_said : Rows.RunSafeSaid :=
  OpenClaim.holds_of_wide 9 Try.f9 rfl rfl rfl rfl rfl rfl rfl ⟨rfl, rfl, rfl, rfl, rfl⟩ rfl rfl rfl rfl rfl (by kernel_rfl) Try.func9 (by kernel_rfl)
    (of_decide_eq_true (by kernel_rfl)) (by unfold Func.isWrapper; rw [if_neg (of_decide_eq_false (by kernel_rfl))]; exact ⟨rfl, rfl⟩)
    (fun os started H enc _ => runSafe_lifted os started H enc)
end Go.Proofs.Ytcojedoejpcolaa

