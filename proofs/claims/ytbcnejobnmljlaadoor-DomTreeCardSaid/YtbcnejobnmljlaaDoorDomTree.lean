/- The law 11: DomTree, walked. -/
import Derived.Test.YtbcnejobnmljlaaDoorLaw11
import Derived.Test.YtbcnejobnmljlaaDoorCount
import Derived.Test.YtbcnejobnmljlaaDoorFlow3
namespace Go.Proofs.YtbcnejobnmljlaaDoor
set_option linter.unusedVariables false
open Go Go.RowKit
set_option maxRecDepth 100000

theorem reachedF_len (ts : List Tm) (fr nt : List Int) : (reachedF ts fr nt).length < 2 ^ 62 := by
  have : (reachedF ts fr nt).length ≤ 1024 := by
    unfold reachedF
    cases closed ts with
    | false => simp
    | true => rw [cond_true]; exact listS_len_le _
  omega
section
set_option maxHeartbeats 4000000 in
theorem law11_DomTree_ct {w : World} {f : RFun} (hT : Tabs w w.heap.size) (hf : FunAt w w.heap.size f) (hfit : Fit f) : Ct Tryd.prog 7 #[f.val] w (Is (.bool true)) := by
  have hbl := hfit.blen
  have htl : f.terms.length = f.blocks.length := by simp [RFun.terms]
  refine Ct.mk Tryd.func7 rfl rfl ?_
  refine Cd.seq ?_
  refine Cd.region ?_
  refine Ol.x bxg ?_
  rintro _ _ ⟨g1, rfl, rfl⟩
  refine Ol.p asb ?_
  refine Ol.nil ?_
  refine Cd.seq ?_
  refine Cd.seq ?_
  refine Cd.region ?_
  refine Ol.s (cl en_law11_awake (fun M w' hh => law11_awake_ct)) ?_
  refine Ol.p noti ?_
  refine Ol.nil ?_
  refine Cd.cond rfl (fun h => by cases h) (fun h => ?_)   -- $12
  refine Cd.skip ?_
  refine Cd.seq ?_
  refine Cd.mid (fun σ' L' => ∃ b : Bool, (b = false → closed f.terms = true) ∧ Has σ' [(1, .pointer (some ⟨g1, 0, none⟩)), (20, .bool b)] ∧ [blk g1 (.cells f.cells.toArray 38)] = L') ?_ ?_
  · skip
    refine Cd.region ?_
    refine Ol.p (ldw ag_api_Func (i := 0) rfl rfl) ?_
    refine Ol.x (sp_call en_kit_FuncOf (fun M w' hh => kit_FuncOf_ct (hf.now hh) hfit (most := 120) (by decide))) ?_
    rintro _ _ ⟨_, rfl, N, rfl, hN1, hN2, rfl⟩
    cases h3 : decide ((120 : Int) < (N : Int)) with
    | true =>
      refine Ol.p gti ?_
      refine Ol.p mvb ?_
      refine Ol.gn h3 ?_
      refine Ol.gn h3 ?_
      refine Ol.gn h3 ?_
      refine Ol.p (pkTb h3) ?_
      refine Ol.nil ?_
      exact ⟨true, fun h => (by cases h), ⟨rfl, rfl, trivial⟩, rfl⟩
    | false =>
      refine Ol.p gti ?_
      refine Ol.p mvb ?_
      refine Ol.gp h3 (ldw ag_api_Func (i := 0) rfl rfl) ?_
      refine Ol.gs h3 (cl en_flow_Closed (fun M w' hh => flow_Closed_ct (hf.now hh) hfit)) ?_
      refine Ol.gp h3 noti ?_
      refine Ol.p (pkFb h3) ?_
      refine Ol.nil ?_
      exact ⟨_, fun h => by simpa using h, ⟨rfl, rfl, trivial⟩, rfl⟩
  rintro σ' _ ⟨b20, hb20, hs', rfl⟩
  refine Cd.has hs' ?_
  refine Cd.cond rfl (fun h => ?_) (fun h => ?_)   -- $20
  · refine Cd.seq ?_
    refine Cd.region ?_
    refine Ol.p (ldw ag_api_Func (i := 0) rfl rfl) ?_
    refine Ol.x (sp_call en_dom_Of (fun M w' hh => dom_Of_ct (hf.now hh) hfit)) ?_
    rintro _ _ ⟨_, rfl, ⟨hc, rfl, rfl⟩ | ⟨hc, hd, gU, rfl, rfl⟩⟩
    · skip
      refine Ol.p (lens sl_L_int) ?_
      refine Ol.p eqi ?_
      refine Ol.p mvb ?_
      refine Ol.gn rfl ?_
      refine Ol.gn rfl ?_
      refine Ol.p (pkTb rfl) ?_
      refine Ol.p asb ?_
      refine Ol.nil ?_
      exact Cd.ret ⟨.bool _, ret1 rfl rfl, [], .nil, rfl, rfl⟩
    · have hpos := (closed_le hc).1
      have hg : decide ((f.terms.length : Int) = 0) = false := by rw [decide_eq_false_iff_not]; omega
      refine Ol.p (lens sl_L_int) ?_
      refine Ol.p eqi ?_
      refine Ol.p mvb ?_
      refine Ol.gp hg (ldw ag_api_Func (i := 1) rfl rfl) ?_
      refine Ol.gs hg (cl en_flow_Closed (fun M w' hh => flow_Closed_ct (hf.now hh) hfit)) ?_
      refine Ol.p (pkFb hg) ?_
      refine Ol.p asb ?_
      refine Ol.nil ?_
      exact Cd.ret ⟨.bool _, ret1 rfl rfl, [], .nil, by rw [hc], rfl⟩
  have hcl := hb20 h
  clear hb20 hs' h
  obtain ⟨hn0, hn200⟩ := closed_le hcl
  refine Cd.skip ?_
  refine Cd.seq ?_
  refine Cd.region ?_
  refine Ol.p (ldw ag_api_Func (i := 0) rfl rfl) ?_
  refine Ol.x (sp_call en_dom_Of (fun M w' hh => dom_Of_ct (hf.now hh) hfit)) ?_
  rintro _ _ ⟨_, rfl, ⟨hc, _⟩ | ⟨_, hd, gU, rfl, rfl⟩⟩; (rw [hcl] at hc; cases hc)
  refine Ol.p ass ?_
  refine Ol.nil ?_
  have F := hd.2 hcl
  have hU := Up.of hcl hd
  refine Cd.seq ?_
  refine Cd.region ?_
  refine Ol.p (ldw ag_api_Func (i := 1) rfl rfl) ?_
  refine Ol.x (bsv [.int .i64 0] sl_L_int zr_int (by simp [Value.cells])) ?_
  rintro _ _ ⟨g32, rfl, rfl⟩
  refine Ol.x (sp_call en_flow_Reached (fun M w' hh => flow_Reached_ct (fr := [0]) (nt := []) (hT.now hh) (hf.now hh) hfit (Reads.row hh (i := 0) rfl) Reads.no (by intro n hn; simp at hn; subst hn; unfold I64; omega) (by intro n hn; cases hn) (by decide) (by decide))) ?_
  rintro _ _ ⟨_, rfl, A33, c33, rfl, rfl⟩
  refine Ol.p ass ?_
  refine Ol.nil ?_
  obtain ⟨al, hal⟩ : ∃ al, al = reachedF f.terms [0] [] := ⟨_, rfl⟩
  rw [← hal]
  have hall : ∀ x, x ∈ al ↔ x ∈ orderF f.terms := fun x => by rw [hal, order_reached hcl]
  have hal62 : al.length < 2 ^ 62 := by rw [hal]; exact reachedF_len _ _ _
  have hz : (ints (domL f.terms))[0]? = some (.int .i64 (-1)) := by
    have := ints_get' (asU_get (ul := domL f.terms) (b := 0) (by rw [hd.1]; exact hn0))
    rw [F.tr.z] at this; exact this
  have hne : (!decide ((f.terms.length : Int) = (f.blocks.length : Int))) = false := by rw [htl]; simp
  refine Cd.seq ?_
  refine Cd.seq ?_
  refine Cd.region ?_
  refine Ol.p mvs ?_
  refine Ol.p (lens sl_L_int) ?_
  refine Ol.p (fdl fd_api_Func_1) ?_
  refine Ol.p (ld one_L_api_Block (Rd.blk (i := 3) rfl rfl)) ?_
  refine Ol.p (lens sl_L_api_Block) ?_
  refine Ol.p nei ?_
  refine Ol.p mvb ?_
  refine Ol.gp hne mvs ?_
  refine Ol.gp hne (ixo1 (ix := 0) sl_L_int) ?_
  refine Ol.gp hne (ld one_int (Rd.blk (i := 2) rfl (by simpa using hz))) ?_
  refine Ol.gp hne nei ?_
  refine Ol.p (pkFb hne) ?_
  refine Ol.nil ?_
  refine Cd.cond rfl (fun h => by cases h) (fun h => ?_)   -- $45
  refine Cd.skip ?_
  refine Cd.seq ?_
  refine Cd.seq ?_
  refine Cd.region ?_
  refine Ol.p asi ?_
  refine Ol.nil ?_
  refine Cd.block ?_   -- 0
  obtain ⟨L0, hL0⟩ : ∃ L0, L0 = [row (.slice A33 al.length c33) 3 1 al.length (intsN al), row (.slice (some ⟨g32, 0, none⟩) 1 1) 3 1 1 [.int .i64 0], blk gU (.cells (ints (domL f.terms)).toArray 3), blk g1 (.cells f.cells.toArray 38)] := ⟨_, rfl⟩
  refine Cd.loop (fun m σ L => ∃ k, m = f.terms.length - k ∧ k ≤ f.terms.length ∧ Has σ [(1, .pointer (some ⟨g1, 0, none⟩)), (3, .slice (some ⟨gU, 0, none⟩) f.terms.length f.terms.length), (4, .slice A33 al.length c33), (5, .int .i64 k)] ∧ L0 = L) (n := f.terms.length) ⟨0, rfl, Nat.zero_le _, ⟨rfl, rfl, rfl, rfl, trivial⟩, hL0⟩ ?_
  rintro _ σ L ⟨a, rfl, hk, hs, rfl⟩
  refine Cd.has hs ?_
  refine Cd.seq ?_
  refine Cd.seq ?_
  refine Cd.region ?_
  refine Ol.p mvi ?_
  refine Ol.p mvs ?_
  refine Ol.p (lens sl_L_int) ?_
  refine Ol.p lsi ?_
  refine Ol.nil ?_
  refine Cd.cond rfl (fun h => ?_) (fun h => ?_)   -- $49
  · have han : a < f.terms.length := by simpa using h
    refine Cd.skip ?_
    refine Cd.seq ?_
    refine Cd.block ?_   -- 1
    refine Cd.seq ?_
    rw [hL0]
    refine Cd.region ?_
    refine Ol.p (ldw ag_api_Func (i := 3) rfl rfl) ?_
    refine Ol.x (bsv [.int .i64 0] sl_L_int zr_int (by simp [Value.cells])) ?_
    rintro _ _ ⟨g53, rfl, rfl⟩
    refine Ol.p mvi ?_
    refine Ol.x (bsv [.int .i64 (a : Int)] sl_L_int zr_int (by simp [Value.cells])) ?_
    rintro _ _ ⟨g55, rfl, rfl⟩
    refine Ol.x (sp_call en_flow_Reached (fun M w' hh => flow_Reached_ct (fr := [0]) (nt := [(a : Int)]) (hT.now hh) (hf.now hh) hfit (Reads.row hh (i := 1) rfl) (Reads.row hh (i := 0) rfl) (by intro n hn; simp at hn; subst hn; unfold I64; omega) (by intro n hn; simp at hn; subst hn; unfold I64; omega) (by decide) (by simp))) ?_
    rintro _ _ ⟨_, rfl, A56, c56, rfl, rfl⟩
    refine Ol.p ass ?_
    refine Ol.nil ?_
    obtain ⟨lf, hlf⟩ : ∃ lf, lf = reachedF f.terms [0] [(a : Int)] := ⟨_, rfl⟩
    rw [← hlf]
    have hlf62 : lf.length < 2 ^ 62 := by rw [hlf]; exact reachedF_len _ _ _
    refine Cd.seq ?_
    refine Cd.region ?_
    refine Ol.p asi ?_
    refine Ol.nil ?_
    refine Cd.block ?_   -- 2
    obtain ⟨L1, hL1⟩ : ∃ L1, L1 = row (.slice A56 lf.length c56) 3 1 lf.length (intsN lf) :: row (.slice (some ⟨g55, 0, none⟩) 1 1) 3 1 1 [.int .i64 (a : Int)] :: row (.slice (some ⟨g53, 0, none⟩) 1 1) 3 1 1 [.int .i64 0] :: [row (.slice A33 al.length c33) 3 1 al.length (intsN al), row (.slice (some ⟨g32, 0, none⟩) 1 1) 3 1 1 [.int .i64 0], blk gU (.cells (ints (domL f.terms)).toArray 3), blk g1 (.cells f.cells.toArray 38)] := ⟨_, rfl⟩
    refine Cd.loop (fun m σ L => ∃ k, m = f.terms.length - k ∧ k ≤ f.terms.length ∧ Has σ [(1, .pointer (some ⟨g1, 0, none⟩)), (3, .slice (some ⟨gU, 0, none⟩) f.terms.length f.terms.length), (4, .slice A33 al.length c33), (5, .int .i64 a), (6, .slice A56 lf.length c56), (7, .int .i64 k)] ∧ L1 = L) (n := f.terms.length) ⟨0, rfl, Nat.zero_le _, ⟨rfl, rfl, rfl, rfl, rfl, rfl, trivial⟩, hL1⟩ ?_
    clear hs
    rintro _ σ L ⟨b, rfl, hkb, hs, rfl⟩
    refine Cd.has hs ?_
    refine Cd.seq ?_
    refine Cd.seq ?_
    refine Cd.region ?_
    refine Ol.p mvi ?_
    refine Ol.p mvs ?_
    refine Ol.p (lens sl_L_int) ?_
    refine Ol.p lsi ?_
    refine Ol.nil ?_
    refine Cd.cond rfl (fun h2 => ?_) (fun h2 => ?_)   -- $60
    · have hbn : b < f.terms.length := by simpa using h2
      obtain ⟨ov, hov⟩ : ∃ ov, ov = overF f.terms (a : Int) (b : Int) := ⟨_, rfl⟩
      have hbU := ints_get' (asU_get (ul := domL f.terms) (b := b) (by rw [hd.1]; exact hbn))
      refine Cd.skip ?_
      refine Cd.seq ?_
      refine Cd.block ?_   -- 3
      refine Cd.seq ?_
      refine Cd.region ?_
      refine Ol.p asb ?_
      refine Ol.nil ?_
      refine Cd.seq ?_
      refine Cd.region ?_
      refine Ol.p mvi ?_
      refine Ol.p asi ?_
      refine Ol.nil ?_
      refine Cd.mid (fun σ' L' => ∃ x : Int, (b ∈ orderF f.terms → x = -1) ∧ Has σ' [(1, .pointer (some ⟨g1, 0, none⟩)), (3, .slice (some ⟨gU, 0, none⟩) f.terms.length f.terms.length), (4, .slice A33 al.length c33), (5, .int .i64 a), (6, .slice A56 lf.length c56), (7, .int .i64 b), (8, .bool ov), (9, .int .i64 x)] ∧ L1 = L') ?_ ?_
      · refine Cd.seq ?_
        refine Cd.region ?_
        refine Ol.p asi ?_
        refine Ol.nil ?_
        refine Cd.block ?_   -- 4
        obtain ⟨ch, hch⟩ : ∃ ch, ch = upsC (domL f.terms) (plL f.terms) (f.terms.length + 1) (b : Int) := ⟨_, rfl⟩
        have hovc : ov = ch.any fun d => decide ((d : Int) = (a : Int)) := by rw [hov, overF_ups hcl, hch]
        have hchl : ch.length ≤ f.terms.length + 1 := by
          rw [hch]
          unfold upsC
          cases inP (plL f.terms) (b : Int) with
          | false => simp
          | true => exact chF_len _ _ _
        have hchn : b ∉ orderF f.terms → ch = [] := fun hn => by
          rw [hch]
          unfold upsC
          have : inP (plL f.terms) (b : Int) = false := by
            rw [← Bool.not_eq_true, inP_iff hcl]
            rintro ⟨x, hx, hxo⟩
            have : x = b := by omega
            subst this; exact hn hxo
          rw [this]; rfl
        have hchy : b ∈ orderF f.terms → ch = chF (asU (domL f.terms)) (f.terms.length + 1) b := fun hy => by
          rw [hch]
          unfold upsC
          rw [(inP_iff hcl).2 ⟨b, rfl, hy⟩, cond_true, Int.toNat_natCast]
        refine Cd.loop (fun m σ L => ∃ (i : Nat) (x : Int) (o : Bool), m = ch.length - i ∧ i ≤ ch.length ∧ o = ((ch.take i).any fun d => decide ((d : Int) = (a : Int))) ∧ (b ∈ orderF f.terms → (0 ≤ x → i < ch.length ∧ ∃ n', (gra f.terms hcl).pl x.toNat < n' ∧ x.toNat ∈ orderF f.terms ∧ ch.drop i = chF (asU (domL f.terms)) n' x.toNat) ∧ (x < 0 → x = -1 ∧ i = ch.length)) ∧
            Has σ [(1, .pointer (some ⟨g1, 0, none⟩)), (3, .slice (some ⟨gU, 0, none⟩) f.terms.length f.terms.length), (4, .slice A33 al.length c33), (5, .int .i64 a), (6, .slice A56 lf.length c56), (7, .int .i64 b), (8, .bool o), (9, .int .i64 x), (10, .int .i64 i)] ∧ L1 = L) (n := ch.length) ⟨0, (b : Int), false, rfl, Nat.zero_le _, by simp, fun hbo => ⟨fun _ => ?_, fun hn => by omega⟩, ⟨rfl, rfl, rfl, rfl, rfl, rfl, rfl, rfl, rfl, trivial⟩, rfl⟩ ?_
        · have h5 : (orderF f.terms).idxOf b < (orderF f.terms).length := List.idxOf_lt_length_of_mem hbo
          have h6 := order_len_le hcl
          rw [Int.toNat_natCast, hchy hbo]
          refine ⟨by unfold chF; simp, f.terms.length + 1, ?_, hbo, rfl⟩
          show (orderF f.terms).idxOf b < _
          omega
        clear hs
        rintro _ σ L ⟨i, x, o, rfl, hi, ho, hx, hs, rfl⟩
        refine Cd.has hs ?_
        refine Cd.seq ?_
        refine Cd.seq ?_
        rw [hL1]
        by_cases hbo : b ∈ orderF f.terms
        · have hbal : b ∈ al := (hall b).2 hbo
          have hhas : decide (b ∈ al) = true := by simpa using hbal
          cases hx0 : decide (0 ≤ x) with
          | true =>
            have hx0' : 0 ≤ x := by simpa using hx0
            obtain ⟨hil, n', hn', hxo, hdr⟩ := (hx hbo).1 hx0'
            have hcast : ((x.toNat : Nat) : Int) = x := by omega
            obtain ⟨q, rfl⟩ : ∃ q, n' = q + 1 := ⟨n' - 1, by omega⟩
            have hget : ch[i]? = some x.toNat := by
              have : (ch.drop i)[0]? = some x.toNat := by rw [hdr]; rfl
              simpa using this
            have hdr2 : ch.drop (i + 1) = if asU (domL f.terms) x.toNat < 0 then [] else chF (asU (domL f.terms)) q (asU (domL f.terms) x.toNat).toNat := by
              have : ch.drop (i + 1) = (ch.drop i).drop 1 := by rw [List.drop_drop]
              rw [this, hdr]
              rfl
            have hxn : x.toNat < f.terms.length := order_lt hcl hxo
            have hux := ints_get' (asU_get (ul := domL f.terms) (b := x.toNat) (by rw [hd.1]; exact hxn))
            have h4 : decide ((i : Int) ≤ (f.terms.length : Int)) = true := by simp; omega
            refine Cd.region ?_
            refine Ol.p mvi ?_
            refine Ol.p mvs ?_
            refine Ol.p (lens sl_L_int) ?_
            refine Ol.p lei ?_
            refine Ol.p mvb ?_
            refine Ol.gp h4 mvs ?_
            refine Ol.gp h4 mvi ?_
            refine Ol.gs h4 (cl en_law11_has (fun M w' hh => law11_has_nat (l := al) (n := b) (Reads.row hh (i := 3) rfl) hal62)) ?_
            refine Ol.p (pkTb h4) ?_
            refine Ol.p mvb ?_
            refine Ol.gp hhas mvi ?_
            refine Ol.gp hhas gei ?_
            refine Ol.p (pkTb hhas) ?_
            refine Ol.nil ?_
            refine Cd.cond rfl (fun h3 => ?_) (fun h3 => by rw [hx0] at h3; cases h3)   -- $76
            refine Cd.skip ?_
            refine Cd.seq ?_
            refine Cd.block ?_   -- 5
            refine Cd.mid (fun σ' L' => Has σ' [(1, .pointer (some ⟨g1, 0, none⟩)), (3, .slice (some ⟨gU, 0, none⟩) f.terms.length f.terms.length), (4, .slice A33 al.length c33), (5, .int .i64 a), (6, .slice A56 lf.length c56), (7, .int .i64 b), (8, .bool (o || decide (x = (a : Int)))), (9, .int .i64 x), (10, .int .i64 i)] ∧ L1 = L') ?_ ?_
            · rw [← hL1]
              cases o with
              | true =>
                refine Cd.region ?_
                refine Ol.p mvb ?_
                refine Ol.p mvb ?_
                refine Ol.gn rfl ?_
                refine Ol.gn rfl ?_
                refine Ol.gn rfl ?_
                refine Ol.p (pkTb rfl) ?_
                refine Ol.p asb ?_
                refine Ol.nil ?_
                exact ⟨⟨rfl, rfl, rfl, rfl, rfl, rfl, rfl, rfl, rfl, trivial⟩, rfl⟩
              | false =>
                refine Cd.region ?_
                refine Ol.p mvb ?_
                refine Ol.p mvb ?_
                refine Ol.gp rfl mvi ?_
                refine Ol.gp rfl mvi ?_
                refine Ol.gp rfl eqi ?_
                refine Ol.p (pkFb rfl) ?_
                refine Ol.p asb ?_
                refine Ol.nil ?_
                exact ⟨⟨rfl, rfl, rfl, rfl, rfl, rfl, rfl, rfl, rfl, trivial⟩, rfl⟩
            rintro σ' _ ⟨hs', rfl⟩
            refine Cd.has hs' ?_
            rw [hL1]
            refine Cd.region ?_
            refine Ol.p mvs ?_
            refine Ol.p mvi ?_
            refine Ol.p (ixo1 (ix := x.toNat) sl_L_int (hy := congrArg (Value.int .i64) hcast.symm)) ?_
            refine Ol.p (ld one_int (Rd.blk (i := 5) rfl (by simpa using hux))) ?_
            refine Ol.p asi ?_
            refine Ol.nil ?_
            rw [← hL1]
            refine Cd.region ?_
            refine Ol.p mvi ?_
            refine Ol.p addi ?_
            refine Ol.p asi ?_
            refine Ol.nil ?_
            refine ⟨ch.length - (i + 1), by omega, i + 1, asU (domL f.terms) x.toNat, o || decide (x = (a : Int)), rfl, by omega, ?_, fun _ => ⟨fun h5 => ?_, fun h5 => ?_⟩, ⟨rfl, rfl, rfl, rfl, rfl, rfl, rfl, rfl, rfl, trivial⟩, rfl⟩
            · rw [take_snoc_ hget, List.any_append, ← ho]
              simp [hcast]
            · have hr := F.tr.up _ h5
              rw [if_neg (by omega)] at hdr2
              obtain ⟨q2, rfl⟩ : ∃ q2, q = q2 + 1 := ⟨q - 1, by have := hr.2.2.1; omega⟩
              refine ⟨?_, q2 + 1, by have := hr.2.2.1; omega, hr.2.1, hdr2⟩
              have h7 : (ch.drop (i + 1)).length ≠ 0 := by rw [hdr2]; unfold chF; simp
              rw [List.length_drop] at h7
              omega
            · rw [if_pos h5] at hdr2
              have h7 := List.drop_eq_nil_iff.1 hdr2
              refine ⟨?_, by omega⟩
              rcases hU.neg x.toNat with e | e
              · exact e
              · omega
          | false =>
            have hx0' : x < 0 := by simpa using hx0
            obtain ⟨hx1, hie⟩ := (hx hbo).2 hx0'
            subst hie
            have h4 : ∃ v4, decide ((ch.length : Int) ≤ (f.terms.length : Int)) = v4 := ⟨_, rfl⟩
            obtain ⟨v4, h4⟩ := h4
            have hfin : ov = o := by rw [ho, List.take_length, hovc]
            cases v4 with
            | true =>
              refine Cd.region ?_
              refine Ol.p mvi ?_
              refine Ol.p mvs ?_
              refine Ol.p (lens sl_L_int) ?_
              refine Ol.p lei ?_
              refine Ol.p mvb ?_
              refine Ol.gp h4 mvs ?_
              refine Ol.gp h4 mvi ?_
              refine Ol.gs h4 (cl en_law11_has (fun M w' hh => law11_has_nat (l := al) (n := b) (Reads.row hh (i := 3) rfl) hal62)) ?_
              refine Ol.p (pkTb h4) ?_
              refine Ol.p mvb ?_
              refine Ol.gp hhas mvi ?_
              refine Ol.gp hhas gei ?_
              refine Ol.p (pkTb hhas) ?_
              refine Ol.nil ?_
              refine Cd.cond rfl (fun h3 => by rw [hx0] at h3; cases h3) (fun h3 => ?_)   -- $76
              refine Cd.exit (id := 4) ?_
              exact ⟨x, fun _ => hx1, ⟨rfl, rfl, rfl, rfl, rfl, rfl, by rw [hfin]; rfl, rfl, trivial⟩, rfl⟩
            | false =>
              refine Cd.region ?_
              refine Ol.p mvi ?_
              refine Ol.p mvs ?_
              refine Ol.p (lens sl_L_int) ?_
              refine Ol.p lei ?_
              refine Ol.p mvb ?_
              refine Ol.gn h4 ?_
              refine Ol.gn h4 ?_
              refine Ol.gn h4 ?_
              refine Ol.p (pkFb h4) ?_
              refine Ol.p mvb ?_
              refine Ol.gn rfl ?_
              refine Ol.gn rfl ?_
              refine Ol.p (pkFb rfl) ?_
              refine Ol.nil ?_
              refine Cd.cond rfl (fun h3 => by cases h3) (fun h3 => ?_)   -- $76
              refine Cd.exit (id := 4) ?_
              exact ⟨x, fun _ => hx1, ⟨rfl, rfl, rfl, rfl, rfl, rfl, by rw [hfin]; rfl, rfl, trivial⟩, rfl⟩
        · have hhas : decide (b ∈ al) = false := by simpa using fun e => hbo ((hall b).1 e)
          have hc0 := hchn hbo
          have hi0 : i = 0 := by rw [hc0] at hi; simpa using hi
          subst hi0
          have hfin : ov = o := by rw [ho, hovc, hc0]; rfl
          have h4 : decide (((0 : Nat) : Int) ≤ (f.terms.length : Int)) = true := by simp
          refine Cd.region ?_
          refine Ol.p mvi ?_
          refine Ol.p mvs ?_
          refine Ol.p (lens sl_L_int) ?_
          refine Ol.p lei ?_
          refine Ol.p mvb ?_
          refine Ol.gp h4 mvs ?_
          refine Ol.gp h4 mvi ?_
          refine Ol.gs h4 (cl en_law11_has (fun M w' hh => law11_has_nat (l := al) (n := b) (Reads.row hh (i := 3) rfl) hal62)) ?_
          refine Ol.p (pkTb h4) ?_
          refine Ol.p mvb ?_
          refine Ol.gn hhas ?_
          refine Ol.gn hhas ?_
          refine Ol.p (pkFb hhas) ?_
          refine Ol.nil ?_
          refine Cd.cond rfl (fun h3 => by cases h3) (fun h3 => ?_)   -- $76
          refine Cd.exit (id := 4) ?_
          exact ⟨x, fun hy => absurd hy hbo, ⟨rfl, rfl, rfl, rfl, rfl, rfl, by rw [hfin]; rfl, rfl, trivial⟩, rfl⟩
      rintro σ' _ ⟨x, hx, hs', rfl⟩
      refine Cd.has hs' ?_
      have hov2 : (!(ov == overF f.terms (a : Int) (b : Int))) = false := by rw [hov]; simp
      have hovI : ∀ (M : List Res) (w' : World), Hp w w.heap.size (M ++ (row (.slice A56 lf.length c56) 3 1 lf.length (intsN lf) :: row (.slice (some ⟨g55, 0, none⟩) 1 1) 3 1 1 [.int .i64 (a : Int)] :: row (.slice (some ⟨g53, 0, none⟩) 1 1) 3 1 1 [.int .i64 0] :: [row (.slice A33 al.length c33) 3 1 al.length (intsN al), row (.slice (some ⟨g32, 0, none⟩) 1 1) 3 1 1 [.int .i64 0], blk gU (.cells (ints (domL f.terms)).toArray 3), blk g1 (.cells f.cells.toArray 38)])) w' → Ct Tryd.prog 36 #[f.val, .int .i64 (a : Int), .int .i64 (b : Int)] w' (Is (.bool (overF f.terms (a : Int) (b : Int)))) := fun M w' hh => dom_Over_ct (hf.now hh) hfit (by omega)
      rw [hL1]
      refine Cd.mid (fun σ' L' => Has σ' [(1, .pointer (some ⟨g1, 0, none⟩)), (3, .slice (some ⟨gU, 0, none⟩) f.terms.length f.terms.length), (4, .slice A33 al.length c33), (5, .int .i64 a), (6, .slice A56 lf.length c56), (7, .int .i64 b), (134, .bool false)] ∧ L1 = L') ?_ ?_
      · by_cases hbo : b ∈ orderF f.terms
        · have hhas : decide (b ∈ al) = true := by simpa using (hall b).2 hbo
          have hx1 := hx hbo
          subst hx1
          have hdom : ov = true ↔ b ∉ lf := by
            rw [hov, overF_iff hcl hd, hlf]
            constructor
            · rintro ⟨x, y, hx, hy, hyo, hD⟩
              have e1 : x = a := by omega
              have e2 : y = b := by omega
              subst e1; subst e2
              exact ((dom_left hcl han).1 hD).2
            · intro hn
              exact ⟨a, b, rfl, rfl, hbo, (dom_left hcl han).2 ⟨hbo, hn⟩⟩
          cases hA : decide (a ∈ al) with
          | true =>
            have h120 : (!(ov == (!decide (b ∈ lf)))) = false := by
              by_cases hm : b ∈ lf
              · have : ov = false := by
                  cases ho : ov with
                  | false => rfl
                  | true => exact absurd hm (hdom.1 ho)
                simp [this, hm]
              · simp [hdom.2 hm, hm]
            have h126 : (!decide (b ∈ al)) = false := by rw [hhas]; rfl
            refine Cd.region ?_
            refine Ol.p mvs ?_
            refine Ol.p mvi ?_
            refine Ol.s (cl en_law11_has (fun M w' hh => law11_has_nat (l := al) (n := b) (Reads.row hh (i := 3) rfl) hal62)) ?_
            refine Ol.p mvb ?_
            refine Ol.gp hhas mvi ?_
            refine Ol.gp hhas nei ?_
            refine Ol.p (pkTb hhas) ?_
            refine Ol.p mvb ?_
            refine Ol.gp rfl mvb ?_
            refine Ol.gp rfl (ldw ag_api_Func (i := 6) rfl rfl) ?_
            refine Ol.gp rfl mvi ?_
            refine Ol.gp rfl mvi ?_
            refine Ol.gs rfl (cl en_dom_Over hovI) ?_
            refine Ol.gp rfl (neb bo_bool) ?_
            refine Ol.p (pkFb rfl) ?_
            refine Ol.p mvb ?_
            refine Ol.gp hov2 mvb ?_
            refine Ol.gp hov2 mvs ?_
            refine Ol.gp hov2 mvi ?_
            refine Ol.gs hov2 (cl en_law11_has (fun M w' hh => law11_has_nat (l := al) (n := b) (Reads.row hh (i := 3) rfl) hal62)) ?_
            refine Ol.gp hov2 mvb ?_
            refine Ol.gp hhas mvs ?_
            refine Ol.gp hhas mvi ?_
            refine Ol.gs hhas (cl en_law11_has (fun M w' hh => law11_has_nat (l := al) (n := a) (Reads.row hh (i := 3) rfl) hal62)) ?_
            refine Ol.gp hov2 (pkTb hhas) ?_
            refine Ol.gp hov2 mvb ?_
            refine Ol.gp hA mvs ?_
            refine Ol.gp hA mvi ?_
            refine Ol.gs hA (cl en_law11_has (fun M w' hh => law11_has_nat (l := lf) (n := b) (Reads.row hh (i := 0) rfl) hlf62)) ?_
            refine Ol.gp hA noti ?_
            refine Ol.gp hov2 (pkTb hA) ?_
            refine Ol.gp hov2 (neb bo_bool) ?_
            refine Ol.p (pkFb hov2) ?_
            refine Ol.p mvb ?_
            refine Ol.gp h120 mvs ?_
            refine Ol.gp h120 mvi ?_
            refine Ol.gs h120 (cl en_law11_has (fun M w' hh => law11_has_nat (l := al) (n := b) (Reads.row hh (i := 3) rfl) hal62)) ?_
            refine Ol.gp h120 noti ?_
            refine Ol.gp h120 mvb ?_
            refine Ol.gn h126 ?_
            refine Ol.gn h126 ?_
            refine Ol.gn h126 ?_
            refine Ol.gn h126 ?_
            refine Ol.gn h126 ?_
            refine Ol.gp h120 (pkFb h126) ?_
            refine Ol.p (pkFb h120) ?_
            refine Ol.nil ?_
            exact ⟨⟨rfl, rfl, rfl, rfl, rfl, rfl, rfl, trivial⟩, hL1⟩
          | false =>
            have hof : ov = false := by
              cases ho : ov with
              | false => rfl
              | true =>
                rw [hov, overF_iff hcl hd] at ho
                obtain ⟨x, y, hx, hy, hyo, hD⟩ := ho
                have e1 : x = a := by omega
                subst e1
                have h5 := (F.dom _ _ hyo).2 hD
                have h6 : x ∈ orderF f.terms := (h5.pr F.tr (F.all y hyo)).reached F.tr
                have h7 : x ∈ al := (hall x).2 h6
                simp at hA
                exact absurd h7 hA
            have h120 : (!(ov == false)) = false := by rw [hof]; rfl
            have h126 : (!decide (b ∈ al)) = false := by rw [hhas]; rfl
            refine Cd.region ?_
            refine Ol.p mvs ?_
            refine Ol.p mvi ?_
            refine Ol.s (cl en_law11_has (fun M w' hh => law11_has_nat (l := al) (n := b) (Reads.row hh (i := 3) rfl) hal62)) ?_
            refine Ol.p mvb ?_
            refine Ol.gp hhas mvi ?_
            refine Ol.gp hhas nei ?_
            refine Ol.p (pkTb hhas) ?_
            refine Ol.p mvb ?_
            refine Ol.gp rfl mvb ?_
            refine Ol.gp rfl (ldw ag_api_Func (i := 6) rfl rfl) ?_
            refine Ol.gp rfl mvi ?_
            refine Ol.gp rfl mvi ?_
            refine Ol.gs rfl (cl en_dom_Over hovI) ?_
            refine Ol.gp rfl (neb bo_bool) ?_
            refine Ol.p (pkFb rfl) ?_
            refine Ol.p mvb ?_
            refine Ol.gp hov2 mvb ?_
            refine Ol.gp hov2 mvs ?_
            refine Ol.gp hov2 mvi ?_
            refine Ol.gs hov2 (cl en_law11_has (fun M w' hh => law11_has_nat (l := al) (n := b) (Reads.row hh (i := 3) rfl) hal62)) ?_
            refine Ol.gp hov2 mvb ?_
            refine Ol.gp hhas mvs ?_
            refine Ol.gp hhas mvi ?_
            refine Ol.gs hhas (cl en_law11_has (fun M w' hh => law11_has_nat (l := al) (n := a) (Reads.row hh (i := 3) rfl) hal62)) ?_
            refine Ol.gp hov2 (pkTb hhas) ?_
            refine Ol.gp hov2 mvb ?_
            refine Ol.gn hA ?_
            refine Ol.gn hA ?_
            refine Ol.gn hA ?_
            refine Ol.gn hA ?_
            refine Ol.gp hov2 (pkFb hA) ?_
            refine Ol.gp hov2 (neb bo_bool) ?_
            refine Ol.p (pkFb hov2) ?_
            refine Ol.p mvb ?_
            refine Ol.gp h120 mvs ?_
            refine Ol.gp h120 mvi ?_
            refine Ol.gs h120 (cl en_law11_has (fun M w' hh => law11_has_nat (l := al) (n := b) (Reads.row hh (i := 3) rfl) hal62)) ?_
            refine Ol.gp h120 noti ?_
            refine Ol.gp h120 mvb ?_
            refine Ol.gn h126 ?_
            refine Ol.gn h126 ?_
            refine Ol.gn h126 ?_
            refine Ol.gn h126 ?_
            refine Ol.gn h126 ?_
            refine Ol.gp h120 (pkFb h126) ?_
            refine Ol.p (pkFb h120) ?_
            refine Ol.nil ?_
            exact ⟨⟨rfl, rfl, rfl, rfl, rfl, rfl, rfl, trivial⟩, hL1⟩
        · have hhas : decide (b ∈ al) = false := by simpa using fun e => hbo ((hall b).1 e)
          have hof : ov = false := by
            cases ho : ov with
            | false => rfl
            | true =>
              rw [hov, overF_iff hcl hd] at ho
              obtain ⟨x, y, hx, hy, hyo, hD⟩ := ho
              have e1 : y = b := by omega
              subst e1
              exact absurd hyo hbo
          have h120 : (!(ov == false)) = false := by rw [hof]; rfl
          have h126 : (!decide (b ∈ al)) = true := by rw [hhas]; rfl
          have hbv : (ints (domL f.terms))[b]? = some (.int .i64 (-1)) := by rw [F.non b hbo] at hbU; exact hbU
          refine Cd.region ?_
          refine Ol.p mvs ?_
          refine Ol.p mvi ?_
          refine Ol.s (cl en_law11_has (fun M w' hh => law11_has_nat (l := al) (n := b) (Reads.row hh (i := 3) rfl) hal62)) ?_
          refine Ol.p mvb ?_
          refine Ol.gn hhas ?_
          refine Ol.gn hhas ?_
          refine Ol.p (pkFb hhas) ?_
          refine Ol.p mvb ?_
          refine Ol.gp rfl mvb ?_
          refine Ol.gp rfl (ldw ag_api_Func (i := 6) rfl rfl) ?_
          refine Ol.gp rfl mvi ?_
          refine Ol.gp rfl mvi ?_
          refine Ol.gs rfl (cl en_dom_Over hovI) ?_
          refine Ol.gp rfl (neb bo_bool) ?_
          refine Ol.p (pkFb rfl) ?_
          refine Ol.p mvb ?_
          refine Ol.gp hov2 mvb ?_
          refine Ol.gp hov2 mvs ?_
          refine Ol.gp hov2 mvi ?_
          refine Ol.gs hov2 (cl en_law11_has (fun M w' hh => law11_has_nat (l := al) (n := b) (Reads.row hh (i := 3) rfl) hal62)) ?_
          refine Ol.gp hov2 mvb ?_
          refine Ol.gn hhas ?_
          refine Ol.gn hhas ?_
          refine Ol.gn hhas ?_
          refine Ol.gp hov2 (pkFb hhas) ?_
          refine Ol.gp hov2 mvb ?_
          refine Ol.gn rfl ?_
          refine Ol.gn rfl ?_
          refine Ol.gn rfl ?_
          refine Ol.gn rfl ?_
          refine Ol.gp hov2 (pkFb rfl) ?_
          refine Ol.gp hov2 (neb bo_bool) ?_
          refine Ol.p (pkFb hov2) ?_
          refine Ol.p mvb ?_
          refine Ol.gp h120 mvs ?_
          refine Ol.gp h120 mvi ?_
          refine Ol.gs h120 (cl en_law11_has (fun M w' hh => law11_has_nat (l := al) (n := b) (Reads.row hh (i := 3) rfl) hal62)) ?_
          refine Ol.gp h120 noti ?_
          refine Ol.gp h120 mvb ?_
          refine Ol.gp h126 mvs ?_
          refine Ol.gp h126 mvi ?_
          refine Ol.gp h126 (ixo1 (ix := b) sl_L_int) ?_
          refine Ol.gp h126 (ld one_int (Rd.blk (i := 5) rfl (by simpa using hbv))) ?_
          refine Ol.gp h126 nei ?_
          refine Ol.gp h120 (pkTb h126) ?_
          refine Ol.p (pkFb h120) ?_
          refine Ol.nil ?_
          exact ⟨⟨rfl, rfl, rfl, rfl, rfl, rfl, rfl, trivial⟩, hL1⟩
      rintro σ' _ ⟨hs', rfl⟩
      refine Cd.has hs' ?_
      refine Cd.cond rfl (fun h3 => by cases h3) (fun h3 => ?_)   -- $134
      refine Cd.skip ?_
      refine Cd.region ?_
      refine Ol.p mvi ?_
      refine Ol.p addi ?_
      refine Ol.p asi ?_
      refine Ol.nil ?_
      exact ⟨f.terms.length - (b + 1), by omega, b + 1, rfl, by omega, ⟨rfl, rfl, rfl, rfl, rfl, rfl, trivial⟩, hL1.symm⟩
    refine Cd.exit (id := 2) ?_
    rw [hL1]
    refine Cd.keep (.sub (.cons _ (.cons _ (.cons _ (List.Sublist.refl _))))) ?_
    refine Cd.region ?_
    refine Ol.p mvi ?_
    refine Ol.p addi ?_
    refine Ol.p asi ?_
    refine Ol.nil ?_
    exact ⟨f.terms.length - (a + 1), by omega, a + 1, rfl, by omega, ⟨rfl, rfl, rfl, rfl, trivial⟩, rfl⟩
  refine Cd.exit (id := 0) ?_
  refine Cd.seq ?_
  refine Cd.region ?_
  refine Ol.p asb ?_
  refine Ol.nil ?_
  exact Cd.ret ⟨.bool _, ret1 rfl rfl, [], .nil, rfl, rfl⟩
end
end Go.Proofs.YtbcnejobnmljlaaDoor
