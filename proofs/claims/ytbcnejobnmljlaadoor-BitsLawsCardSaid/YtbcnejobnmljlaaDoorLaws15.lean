/- The law 15: BitsLaws, walked. -/
import Derived.Test.YtbcnejobnmljlaaDoorLaw15
import Derived.Test.YtbcnejobnmljlaaDoorPop
namespace Go.Proofs.YtbcnejobnmljlaaDoor
set_option linter.unusedVariables false
open Go Go.RowKit
set_option maxRecDepth 100000

def hasP (l : List Int) (n : Int) : Bool := okN n && l.contains n
theorem memb_of (l : List Int) (n : Int) : memb (ofL l) n = hasP l n := by
  unfold memb hasP
  cases h : okN n with
  | false => rfl
  | true =>
    obtain ⟨k, rfl, hk⟩ := okN_nat h
    rw [Int.toNat_natCast, testBit_ofL, h]
    rfl
theorem memb_or (s t : Nat) (n : Int) : memb (s ||| t) n = (memb s n || memb t n) := by simp only [memb, Nat.testBit_or]; cases okN n <;> simp
theorem memb_and (s t : Nat) (n : Int) : memb (s &&& t) n = (memb s n && memb t n) := by simp only [memb, Nat.testBit_and]; cases okN n <;> simp
theorem memb_less (s t : Nat) (n : Int) : memb (less s t) n = (memb s n && !memb t n) := by simp only [memb, testBit_less]; cases okN n <;> simp
theorem eq_tr {s t : Nat} (h : s = t) : true = true ↔ enc s = enc t := by subst h; simp
theorem tell0 {f : Nat → Nat} (i : Nat) (a b : Value) (ha : (encF f)[i]? = some a) (hb : (#[.int .u64 0, .int .u64 0, .int .u64 0, .int .u64 0, .int .u64 0, .int .u64 0, .int .u64 0, .int .u64 0, .int .u64 0, .int .u64 0, .int .u64 0, .int .u64 0, .int .u64 0, .int .u64 0, .int .u64 0, .int .u64 0] : Array Value)[i]? = some b) : Tell (.int .u64) a b := by
  rw [← enc0] at hb
  exact encF_tell i a b ha hb
section
theorem law15_has_ct {w : World} {A : Option Addr} {c : Nat} {l : List Int} {n : Int} (hl : Reads w w.heap.size 1 A l.length (ints l)) (hb : l.length < 2 ^ 62) : Ct Tryd.prog 17 #[.slice A l.length c, .int .i64 n] w (Is (.bool (hasP l n))) := by
  refine Ct.mk Tryd.func17 rfl rfl ?_
  refine Cd.seq ?_
  refine Cd.region ?_
  refine Ol.p asb ?_
  refine Ol.nil ?_
  refine Cd.seq ?_
  refine Cd.seq ?_
  refine Cd.region ?_
  refine Ol.p asi ?_
  refine Ol.nil ?_
  refine Cd.block ?_
  refine Cd.loop (fun m σ L => ∃ k, m = l.length - k ∧ k ≤ l.length ∧ Has σ [(0, .slice A l.length c), (1, .int .i64 n), (5, .int .i64 k)] ∧ L = [] ∧ (l.take k).contains n = false) (n := l.length) ⟨0, rfl, Nat.zero_le _, ⟨rfl, rfl, rfl, trivial⟩, rfl, by simp⟩ ?_
  rintro _ σ L ⟨k, rfl, hk, hs, rfl, hno⟩
  refine Cd.has hs ?_
  refine Cd.seq ?_
  refine Cd.seq ?_
  refine Cd.region ?_
  refine Ol.p mvi ?_
  refine Ol.p mvs ?_
  refine Ol.p (lens sl_L_int) ?_
  refine Ol.p lsi ?_
  refine Ol.nil ?_
  refine Cd.cond rfl (fun h => ?_) (fun h => ?_)
  · have hlt : k < l.length := by simpa using h
    refine Cd.skip ?_
    refine Cd.seq ?_
    refine Cd.block ?_
    refine Cd.seq ?_
    refine Cd.region ?_
    refine Ol.p mvs ?_
    refine Ol.p mvi ?_
    refine Ol.p (ixn1 sl_L_int (Som.slc hl (by omega))) ?_
    refine Ol.p (ld one_int (Rd.slc hl (ints_get hlt))) ?_
    refine Ol.p mvi ?_
    refine Ol.p eqi ?_
    refine Ol.nil ?_
    refine Cd.cond rfl (fun h2 => ?_) (fun h2 => ?_)
    · have he : l[k] = n := by simpa using h2
      have hc : l.contains n = true := by rw [List.contains_iff_mem, ← he]; exact List.getElem_mem hlt
      refine Cd.seq ?_
      cases h0 : decide ((0 : Int) ≤ n) with
      | true =>
        refine Cd.region ?_
        refine Ol.p mvi ?_
        refine Ol.p gei ?_
        refine Ol.p mvb ?_
        refine Ol.gp h0 mvi ?_
        refine Ol.gp h0 lsi ?_
        refine Ol.p (pkTb h0) ?_
        refine Ol.p asb ?_
        refine Ol.nil ?_
        refine Cd.ret ⟨.bool _, ret1 rfl rfl, [], .nil, ?_, rfl⟩
        unfold hasP okN
        rw [hc, h0]
        simp
      | false =>
        refine Cd.region ?_
        refine Ol.p mvi ?_
        refine Ol.p gei ?_
        refine Ol.p mvb ?_
        refine Ol.gn h0 ?_
        refine Ol.gn h0 ?_
        refine Ol.p (pkFb h0) ?_
        refine Ol.p asb ?_
        refine Ol.nil ?_
        refine Cd.ret ⟨.bool _, ret1 rfl rfl, [], .nil, ?_, rfl⟩
        unfold hasP okN
        rw [h0]
        rfl
    · have he : ¬ l[k] = n := by simpa using h2
      refine Cd.skip ?_
      refine Cd.region ?_
      refine Ol.p mvi ?_
      refine Ol.p addi ?_
      refine Ol.p asi ?_
      refine Ol.nil ?_
      refine ⟨l.length - (k + 1), by omega, k + 1, rfl, by omega, ⟨rfl, rfl, rfl, trivial⟩, rfl, ?_⟩
      rw [take_snoc hlt]
      simp only [List.contains_append, hno, Bool.false_or]
      simp; omega
  · have hge : k = l.length := by
      have : ¬ (k : Int) < l.length := by simpa using h
      omega
    subst hge
    refine Cd.exit (id := 0) ?_
    refine Cd.seq ?_
    refine Cd.region ?_
    refine Ol.p asb ?_
    refine Ol.nil ?_
    refine Cd.ret ⟨.bool _, ret1 rfl rfl, [], .nil, ?_, rfl⟩
    rw [List.take_length] at hno
    unfold hasP
    rw [hno]
    simp
end
section
/-- Are two the same, as far as the first k of the numbers from -1 on? -/
def oneF (a b : List Int) (k : Nat) : Bool := (List.range k).all fun i => hasP a ((i : Int) - 1) == hasP b ((i : Int) - 1)
theorem oneF_succ (a b : List Int) (k : Nat) : oneF a b (k + 1) = (oneF a b k && (hasP a ((k : Int) - 1) == hasP b ((k : Int) - 1))) := by simp [oneF, List.range_succ]
theorem oneF_iff (a b : List Int) : oneF a b 1027 = decide (ofL a = ofL b) := by
  rw [Bool.eq_iff_iff, decide_eq_true_iff]
  constructor
  · intro h
    unfold oneF at h
    rw [List.all_eq_true] at h
    apply set_ext
    intro i
    by_cases hi : i < 1024
    · have h1 := h (i + 1) (by simp; omega)
      rw [show ((i + 1 : Nat) : Int) - 1 = (i : Int) by omega] at h1
      have h2 : hasP a i = hasP b i := by simpa using h1
      rw [testBit_ofL, testBit_ofL]
      exact h2
    · rw [ofL_sm a i (by omega), ofL_sm b i (by omega)]
  · intro h
    unfold oneF
    rw [List.all_eq_true]
    intro i _
    rw [← memb_of, ← memb_of, h]
    simp
def listI (s : Nat) : List Int := (listS s).map fun n : Nat => (n : Int)
theorem intsN_eq (s : Nat) : intsN (listS s) = ints (listI s) := by simp [intsN, ints, listI, List.map_map, Function.comp_def]
theorem listI_len (s : Nat) : (listI s).length = (listS s).length := by simp [listI]
theorem listI_i64 (s : Nat) : ∀ n ∈ listI s, I64 n := by
  intro n hn
  unfold listI at hn
  rw [List.mem_map] at hn
  obtain ⟨k, hk, rfl⟩ := hn
  have := (mem_listS.1 hk).1
  unfold I64; omega
theorem listI_get {s k : Nat} (h : k < (listI s).length) : ∃ n : Nat, (listI s)[k] = (n : Int) ∧ (listS s)[k]? = some n ∧ n < 1024 ∧ s.testBit n = true := by
  have h' : k < (listS s).length := by rw [← listI_len]; exact h
  refine ⟨(listS s)[k], by simp [listI], List.getElem?_eq_getElem h', ?_⟩
  exact mem_listS.1 (List.getElem_mem h')
theorem listI_rise {s i : Nat} (h : i + 1 < (listI s).length) : (listI s)[i] < (listI s)[i + 1] := by
  have := List.pairwise_iff_getElem.1 (listS_sorted s) i (i + 1) (by rw [← listI_len]; omega) (by rw [← listI_len]; omega) (by omega)
  simp only [listI, List.getElem_map]
  omega
theorem ofL_listI {s : Nat} (hs : Sm s) : ofL (listI s) = s := set_ext fun i => by
  rw [testBit_ofL]
  by_cases hi : i < 1024
  · have hok : okN (i : Int) = true := by rw [okN_iff]; omega
    rw [hok, Bool.true_and, Bool.eq_iff_iff, List.contains_iff_mem]
    unfold listI
    rw [List.mem_map]
    constructor
    · rintro ⟨n, hn, e⟩
      have : n = i := by omega
      subst this
      exact (mem_listS.1 hn).2
    · intro h
      exact ⟨i, mem_listS.2 ⟨hi, h⟩, rfl⟩
  · rw [hs i (by omega)]
    have hok : okN (i : Int) = false := by
      cases h : okN (i : Int) with
      | false => rfl
      | true => rw [okN_iff] at h; omega
    rw [hok]; rfl
theorem firstS_eq {s : Nat} {x : Int} (h : (listI s)[0]? = some x) : firstS s = x := by
  unfold listI at h
  unfold firstS
  cases hl : listS s with
  | nil => rw [hl] at h; simp at h
  | cons n l => rw [hl] at h; simpa using h
theorem hasP_list {a : List Int} {n : Nat} (h : n < 1024) (hb : (ofL a).testBit n = true) : hasP a (n : Int) = true := by
  rw [testBit_ofL] at hb
  exact hb
theorem law15_BitsLaws_ct {w : World} {A1 A2 A3 : Option Addr} {c1 c2 c3 : Nat} {a b c : List Int} (hT : Tabs w w.heap.size) (ha : Reads w w.heap.size 1 A1 a.length (ints a)) (hb : Reads w w.heap.size 1 A2 b.length (ints b)) (hc : Reads w w.heap.size 1 A3 c.length (ints c))
    (hia : ∀ n ∈ a, I64 n) (hib : ∀ n ∈ b, I64 n) (hic : ∀ n ∈ c, I64 n) (hla : a.length < 2 ^ 60) (hlb : b.length < 2 ^ 60) (hlc : c.length < 2 ^ 60) :
    Ct Tryd.prog 4 #[.slice A1 a.length c1, .slice A2 b.length c2, .slice A3 c.length c3] w (Is (.bool true)) := by
  have q6 := eq_tr (s := ((ofL a) ||| (ofL b))) (t := ((ofL b) ||| (ofL a))) (set_ext fun i => by simp only [Nat.testBit_or]; cases (ofL a).testBit i <;> cases (ofL b).testBit i <;> rfl)
  have q14 := eq_tr (s := ((ofL a) &&& (ofL b))) (t := ((ofL b) &&& (ofL a))) (set_ext fun i => by simp only [Nat.testBit_and]; cases (ofL a).testBit i <;> cases (ofL b).testBit i <;> rfl)
  have q27 := eq_tr (s := (((ofL a) ||| (ofL b)) ||| (ofL c))) (t := ((ofL a) ||| ((ofL b) ||| (ofL c)))) (set_ext fun i => by simp only [Nat.testBit_or]; cases (ofL a).testBit i <;> cases (ofL b).testBit i <;> cases (ofL c).testBit i <;> rfl)
  have q40 := eq_tr (s := (((ofL a) &&& (ofL b)) &&& (ofL c))) (t := ((ofL a) &&& ((ofL b) &&& (ofL c)))) (set_ext fun i => by simp only [Nat.testBit_and]; cases (ofL a).testBit i <;> cases (ofL b).testBit i <;> cases (ofL c).testBit i <;> rfl)
  have q55 := eq_tr (s := ((ofL a) &&& ((ofL b) ||| (ofL c)))) (t := (((ofL a) &&& (ofL b)) ||| ((ofL a) &&& (ofL c)))) (set_ext fun i => by simp only [Nat.testBit_or, Nat.testBit_and]; cases (ofL a).testBit i <;> cases (ofL b).testBit i <;> cases (ofL c).testBit i <;> rfl)
  have q70 := eq_tr (s := ((ofL a) ||| ((ofL b) &&& (ofL c)))) (t := (((ofL a) ||| (ofL b)) &&& ((ofL a) ||| (ofL c)))) (set_ext fun i => by simp only [Nat.testBit_or, Nat.testBit_and]; cases (ofL a).testBit i <;> cases (ofL b).testBit i <;> cases (ofL c).testBit i <;> rfl)
  have q81 := eq_tr (s := ((less (ofL a) (ofL b)) ||| ((ofL a) &&& (ofL b)))) (t := (ofL a)) (set_ext fun i => by simp only [Nat.testBit_or, Nat.testBit_and, testBit_less]; cases (ofL a).testBit i <;> cases (ofL b).testBit i <;> rfl)
  have q90 := eq_tr (s := ((less (ofL a) (ofL b)) &&& (ofL b))) (t := 0) (set_ext fun i => by simp only [Nat.testBit_and, testBit_less, Nat.zero_testBit]; cases (ofL a).testBit i <;> cases (ofL b).testBit i <;> rfl)
  refine Ct.mk Tryd.func4 rfl rfl ?_
  refine Cd.seq ?_
  refine Cd.region ?_
  refine Ol.p asb ?_
  refine Ol.nil ?_
  refine Cd.seq ?_
  refine Cd.seq ?_
  refine Cd.region ?_
  refine Ol.s (cl en_law15_awake (fun M w' hh => law15_awake_ct (hT.now hh))) ?_
  refine Ol.p noti ?_
  refine Ol.nil ?_
  refine Cd.cond rfl (fun h => by cases h) (fun h => ?_)
  refine Cd.skip ?_
  refine Cd.seq ?_
  refine Cd.seq ?_
  refine Cd.region ?_
  refine Ol.p mvs ?_
  refine Ol.p (lens sl_L_int) ?_
  refine Ol.p mvs ?_
  refine Ol.p (lens sl_L_int) ?_
  refine Ol.p addi ?_
  refine Ol.p mvs ?_
  refine Ol.p (lens sl_L_int) ?_
  refine Ol.p addi ?_
  refine Ol.p gti ?_
  refine Ol.nil ?_
  refine Cd.cond rfl (fun h => ?_) (fun h => ?_)
  · refine Cd.seq ?_
    refine Cd.region ?_
    refine Ol.p asb ?_
    refine Ol.nil ?_
    refine Cd.ret ⟨.bool _, ret1 rfl rfl, [], .nil, rfl, rfl⟩
  refine Cd.skip ?_
  refine Cd.seq ?_
  refine Cd.region ?_
  refine Ol.p mvs ?_
  refine Ol.s (cl en_bits_Of (fun M w' hh => bits_Of_ct (l := a) (ha.now hh) hia (by omega))) ?_
  refine Ol.p mvs ?_
  refine Ol.s (cl en_bits_Of (fun M w' hh => bits_Of_ct (l := b) (hb.now hh) hib (by omega))) ?_
  refine Ol.p mvs ?_
  refine Ol.s (cl en_bits_Of (fun M w' hh => bits_Of_ct (l := c) (hc.now hh) hic (by omega))) ?_
  refine Ol.x (alc zr_bits_Set) ?_
  rintro _ _ ⟨g7, rfl, rfl⟩
  refine Ol.x (alc zr_bits_Set) ?_
  rintro _ _ ⟨g8, rfl, rfl⟩
  refine Ol.x (alc zr_bits_Set) ?_
  rintro _ _ ⟨g9, rfl, rfl⟩
  refine Ol.s (stw sz_bits_Set (enc_size _) (encF_one _) (i := 2) rfl rfl) ?_
  refine Ol.s (stw sz_bits_Set (enc_size _) (encF_one _) (i := 1) rfl rfl) ?_
  refine Ol.s (stw sz_bits_Set (enc_size _) (encF_one _) (i := 0) rfl rfl) ?_
  refine Ol.nil ?_
  refine Cd.seq ?_
  refine Cd.region ?_
  refine Ol.p asb ?_
  refine Ol.nil ?_
  refine Cd.seq ?_
  refine Cd.seq ?_
  refine Cd.region ?_
  refine Ol.p asi ?_
  refine Ol.nil ?_
  refine Cd.block ?_
  refine Cd.loop (fun m σ L => ∃ k, m = 1027 - k ∧ k ≤ 1027 ∧ Has σ [(0, .slice A1 a.length c1), (1, .slice A2 b.length c2), (7, .pointer (some ⟨g7, 0, none⟩)), (8, .pointer (some ⟨g8, 0, none⟩)), (9, .pointer (some ⟨g9, 0, none⟩)), (10, .bool (oneF a b k)), (11, .int .i64 ((k : Int) - 1))] ∧ L = [blk g9 (.cells (enc (ofL c)) 27), blk g8 (.cells (enc (ofL b)) 27), blk g7 (.cells (enc (ofL a)) 27)]) (n := 1027) ⟨0, rfl, Nat.zero_le _, ⟨rfl, rfl, rfl, rfl, rfl, rfl, rfl, trivial⟩, rfl⟩ ?_
  rintro _ σ L ⟨k, rfl, hk, hs, rfl⟩
  refine Cd.has hs ?_
  refine Cd.seq ?_
  refine Cd.seq ?_
  refine Cd.region ?_
  refine Ol.p mvi ?_
  refine Ol.p lsi ?_
  refine Ol.nil ?_
  refine Cd.cond rfl (fun h => ?_) (fun h => ?_)
  · have hlt : k < 1027 := by simp at h; omega
    have hn : I64 ((k : Int) - 1) := by unfold I64; omega
    have r1 : (!(memb (ofL a) ((k : Int) - 1) == hasP a ((k : Int) - 1))) = false := by rw [memb_of]; simp
    refine Cd.skip ?_
    refine Cd.seq ?_
    refine Cd.block ?_
    refine Cd.seq ?_
    refine Cd.region ?_
    refine Ol.p mvs ?_
    refine Ol.p mvi ?_
    refine Ol.s (cl en_law15_has (fun M w' hh => law15_has_ct (ha.now hh) (by omega))) ?_
    refine Ol.p mvs ?_
    refine Ol.p mvi ?_
    refine Ol.s (cl en_law15_has (fun M w' hh => law15_has_ct (hb.now hh) (by omega))) ?_
    refine Ol.p asb ?_
    refine Ol.p asb ?_
    refine Ol.nil ?_
    refine Cd.seq ?_
    refine Cd.mid (fun σ' L' => ∃ bb, Has σ' [(0, .slice A1 a.length c1), (1, .slice A2 b.length c2), (7, .pointer (some ⟨g7, 0, none⟩)), (8, .pointer (some ⟨g8, 0, none⟩)), (9, .pointer (some ⟨g9, 0, none⟩)), (10, .bool (oneF a b k)), (11, .int .i64 ((k : Int) - 1)), (12, .bool (hasP a ((k : Int) - 1))), (13, .bool (hasP b ((k : Int) - 1))), (84, .bool bb)] ∧ bb = false ∧ L' = [blk g9 (.cells (enc (ofL c)) 27), blk g8 (.cells (enc (ofL b)) 27), blk g7 (.cells (enc (ofL a)) 27)]) ?_ ?_
    · cases hx : hasP a ((k : Int) - 1) with
      | true =>
        have r2 : (!(memb (ofL a ||| ofL b) ((k : Int) - 1) == true)) = false := by rw [memb_or, memb_of, hx]; simp
        have r3 : (!(memb (ofL a &&& ofL b) ((k : Int) - 1) == hasP b ((k : Int) - 1))) = false := by rw [memb_and, memb_of, memb_of, hx]; simp
        have r4 : (!(memb (less (ofL a) (ofL b)) ((k : Int) - 1) == !hasP b ((k : Int) - 1))) = false := by rw [memb_less, memb_of, memb_of, hx]; simp
        rw [hx] at r1
        have hx : true = true := rfl
        refine Cd.region ?_
        refine Ol.p (ldw ag_bits_Set (i := 2) rfl (enc_size _)) ?_
        refine Ol.p mvi ?_
        refine Ol.s (cl en_bits_Set_Has (fun M w' hh => bits_Set_Has_ct (s := ofL a) hn)) ?_
        refine Ol.p mvb ?_
        refine Ol.p (neb bo_bool) ?_
        refine Ol.p mvb ?_
        refine Ol.gp r1 (ldw ag_bits_Set (i := 2) rfl (enc_size _)) ?_
        refine Ol.gp r1 (ldw ag_bits_Set (i := 1) rfl (enc_size _)) ?_
        refine Ol.gs r1 (cl en_bits_Set_Or (fun M w' hh => bits_Set_Or_ct (s := ofL a) (t := ofL b))) ?_
        refine Ol.gp r1 mvi ?_
        refine Ol.gs r1 (cl en_bits_Set_Has (fun M w' hh => bits_Set_Has_ct (s := ofL a ||| ofL b) hn)) ?_
        refine Ol.gp r1 mvb ?_
        refine Ol.gp r1 mvb ?_
        refine Ol.gn hx ?_
        refine Ol.gp r1 (pkTb hx) ?_
        refine Ol.gp r1 (neb bo_bool) ?_
        refine Ol.p (pkFb r1) ?_
        refine Ol.p mvb ?_
        refine Ol.gp r2 (ldw ag_bits_Set (i := 2) rfl (enc_size _)) ?_
        refine Ol.gp r2 (ldw ag_bits_Set (i := 1) rfl (enc_size _)) ?_
        refine Ol.gs r2 (cl en_bits_Set_And (fun M w' hh => bits_Set_And_ct (s := ofL a) (t := ofL b))) ?_
        refine Ol.gp r2 mvi ?_
        refine Ol.gs r2 (cl en_bits_Set_Has (fun M w' hh => bits_Set_Has_ct (s := ofL a &&& ofL b) hn)) ?_
        refine Ol.gp r2 mvb ?_
        refine Ol.gp r2 mvb ?_
        refine Ol.gp hx mvb ?_
        refine Ol.gp r2 (pkTb hx) ?_
        refine Ol.gp r2 (neb bo_bool) ?_
        refine Ol.p (pkFb r2) ?_
        refine Ol.p mvb ?_
        refine Ol.gp r3 (ldw ag_bits_Set (i := 2) rfl (enc_size _)) ?_
        refine Ol.gp r3 (ldw ag_bits_Set (i := 1) rfl (enc_size _)) ?_
        refine Ol.gs r3 (cl en_bits_Set_Less (fun M w' hh => bits_Set_Less_ct (s := ofL a) (t := ofL b))) ?_
        refine Ol.gp r3 mvi ?_
        refine Ol.gs r3 (cl en_bits_Set_Has (fun M w' hh => bits_Set_Has_ct (s := less (ofL a) (ofL b)) hn)) ?_
        refine Ol.gp r3 mvb ?_
        refine Ol.gp r3 mvb ?_
        refine Ol.gp hx mvb ?_
        refine Ol.gp hx noti ?_
        refine Ol.gp r3 (pkTb hx) ?_
        refine Ol.gp r3 (neb bo_bool) ?_
        refine Ol.p (pkFb r3) ?_
        refine Ol.nil ?_
        exact ⟨_, ⟨rfl, rfl, rfl, rfl, rfl, rfl, rfl, rfl, rfl, rfl, trivial⟩, r4, rfl⟩
      | false =>
        have r2 : (!(memb (ofL a ||| ofL b) ((k : Int) - 1) == hasP b ((k : Int) - 1))) = false := by rw [memb_or, memb_of, memb_of, hx]; simp
        have r3 : (!(memb (ofL a &&& ofL b) ((k : Int) - 1) == false)) = false := by rw [memb_and, memb_of, memb_of, hx]; simp
        have r4 : (!(memb (less (ofL a) (ofL b)) ((k : Int) - 1) == false)) = false := by rw [memb_less, memb_of, memb_of, hx]; simp
        rw [hx] at r1
        have hx : false = false := rfl
        refine Cd.region ?_
        refine Ol.p (ldw ag_bits_Set (i := 2) rfl (enc_size _)) ?_
        refine Ol.p mvi ?_
        refine Ol.s (cl en_bits_Set_Has (fun M w' hh => bits_Set_Has_ct (s := ofL a) hn)) ?_
        refine Ol.p mvb ?_
        refine Ol.p (neb bo_bool) ?_
        refine Ol.p mvb ?_
        refine Ol.gp r1 (ldw ag_bits_Set (i := 2) rfl (enc_size _)) ?_
        refine Ol.gp r1 (ldw ag_bits_Set (i := 1) rfl (enc_size _)) ?_
        refine Ol.gs r1 (cl en_bits_Set_Or (fun M w' hh => bits_Set_Or_ct (s := ofL a) (t := ofL b))) ?_
        refine Ol.gp r1 mvi ?_
        refine Ol.gs r1 (cl en_bits_Set_Has (fun M w' hh => bits_Set_Has_ct (s := ofL a ||| ofL b) hn)) ?_
        refine Ol.gp r1 mvb ?_
        refine Ol.gp r1 mvb ?_
        refine Ol.gp hx mvb ?_
        refine Ol.gp r1 (pkFb hx) ?_
        refine Ol.gp r1 (neb bo_bool) ?_
        refine Ol.p (pkFb r1) ?_
        refine Ol.p mvb ?_
        refine Ol.gp r2 (ldw ag_bits_Set (i := 2) rfl (enc_size _)) ?_
        refine Ol.gp r2 (ldw ag_bits_Set (i := 1) rfl (enc_size _)) ?_
        refine Ol.gs r2 (cl en_bits_Set_And (fun M w' hh => bits_Set_And_ct (s := ofL a) (t := ofL b))) ?_
        refine Ol.gp r2 mvi ?_
        refine Ol.gs r2 (cl en_bits_Set_Has (fun M w' hh => bits_Set_Has_ct (s := ofL a &&& ofL b) hn)) ?_
        refine Ol.gp r2 mvb ?_
        refine Ol.gp r2 mvb ?_
        refine Ol.gn hx ?_
        refine Ol.gp r2 (pkFb hx) ?_
        refine Ol.gp r2 (neb bo_bool) ?_
        refine Ol.p (pkFb r2) ?_
        refine Ol.p mvb ?_
        refine Ol.gp r3 (ldw ag_bits_Set (i := 2) rfl (enc_size _)) ?_
        refine Ol.gp r3 (ldw ag_bits_Set (i := 1) rfl (enc_size _)) ?_
        refine Ol.gs r3 (cl en_bits_Set_Less (fun M w' hh => bits_Set_Less_ct (s := ofL a) (t := ofL b))) ?_
        refine Ol.gp r3 mvi ?_
        refine Ol.gs r3 (cl en_bits_Set_Has (fun M w' hh => bits_Set_Has_ct (s := less (ofL a) (ofL b)) hn)) ?_
        refine Ol.gp r3 mvb ?_
        refine Ol.gp r3 mvb ?_
        refine Ol.gn hx ?_
        refine Ol.gn hx ?_
        refine Ol.gp r3 (pkFb hx) ?_
        refine Ol.gp r3 (neb bo_bool) ?_
        refine Ol.p (pkFb r3) ?_
        refine Ol.nil ?_
        exact ⟨_, ⟨rfl, rfl, rfl, rfl, rfl, rfl, rfl, rfl, rfl, rfl, trivial⟩, r4, rfl⟩
    · rintro σ' _ ⟨bb, hs', rfl, rfl⟩
      refine Cd.has hs' ?_
      refine Cd.cond rfl (fun h => by cases h) (fun h => ?_)
      refine Cd.skip ?_
      cases ho : oneF a b k with
      | true =>
        refine Cd.region ?_
        refine Ol.p mvb ?_
        refine Ol.p mvb ?_
        refine Ol.gp rfl mvb ?_
        refine Ol.gp rfl mvb ?_
        refine Ol.gp rfl (eqb bo_bool) ?_
        refine Ol.p (pkTb rfl) ?_
        refine Ol.p asb ?_
        refine Ol.nil ?_
        refine Cd.region ?_
        refine Ol.p mvi ?_
        refine Ol.p addi ?_
        refine Ol.p asi ?_
        refine Ol.nil ?_
        refine ⟨1027 - (k + 1), by omega, k + 1, rfl, by omega, ⟨rfl, rfl, rfl, rfl, rfl, ?_, ?_, trivial⟩, rfl⟩
        · rw [oneF_succ, ho]; rfl
        · show Value.int .i64 _ = Value.int .i64 _
          congr 1; omega
      | false =>
        refine Cd.region ?_
        refine Ol.p mvb ?_
        refine Ol.p mvb ?_
        refine Ol.gn rfl ?_
        refine Ol.gn rfl ?_
        refine Ol.gn rfl ?_
        refine Ol.p (pkFb rfl) ?_
        refine Ol.p asb ?_
        refine Ol.nil ?_
        refine Cd.region ?_
        refine Ol.p mvi ?_
        refine Ol.p addi ?_
        refine Ol.p asi ?_
        refine Ol.nil ?_
        refine ⟨1027 - (k + 1), by omega, k + 1, rfl, by omega, ⟨rfl, rfl, rfl, rfl, rfl, ?_, ?_, trivial⟩, rfl⟩
        · rw [oneF_succ, ho]; rfl
        · show Value.int .i64 _ = Value.int .i64 _
          congr 1; omega
  have hge : k = 1027 := by simp at h; omega
  subst hge
  rw [oneF_iff]
  refine Cd.exit (id := 0) ?_
  refine Cd.seq ?_
  refine Cd.region ?_
  refine Ol.p (ldw ag_bits_Set (i := 2) rfl (enc_size _)) ?_
  refine Ol.x (sp_call en_bits_Set_List (fun M w' hh => bits_Set_List_ct (hT.now hh))) ?_
  rintro _ _ ⟨_, rfl, A, cl, rfl, rfl⟩
  refine Ol.p ass ?_
  refine Ol.nil ?_
  have hlen : (listS (ofL a)).length ≤ 1024 := listS_len_le _
  have hrow : ∀ M w', Hp w w.heap.size (M ++ [row (.slice A (listS (ofL a)).length cl) 3 1 (listS (ofL a)).length (intsN (listS (ofL a))), blk g9 (.cells (enc (ofL c)) 27), blk g8 (.cells (enc (ofL b)) 27), blk g7 (.cells (enc (ofL a)) 27)]) w' → Reads w' w'.heap.size 1 A (listI (ofL a)).length (ints (listI (ofL a))) := fun M w' hh => by
    have := Reads.row hh (i := 0) rfl
    rw [listI_len, ← intsN_eq]
    exact this
  have hgt : ∀ {k : Nat} (h : k < (listI (ofL a)).length), (intsN (listS (ofL a)))[k]? = some (.int .i64 (listI (ofL a))[k]) := fun h => by rw [intsN_eq]; exact ints_get h
  refine Cd.seq ?_
  refine Cd.seq ?_
  refine Cd.region ?_
  refine Ol.p asi ?_
  refine Ol.nil ?_
  refine Cd.block ?_
  refine Cd.loop (fun m σ L => ∃ k, m = (listI (ofL a)).length - k ∧ k ≤ (listI (ofL a)).length ∧ Has σ [(0, .slice A1 a.length c1), (7, .pointer (some ⟨g7, 0, none⟩)), (8, .pointer (some ⟨g8, 0, none⟩)), (9, .pointer (some ⟨g9, 0, none⟩)), (10, .bool (decide (ofL a = ofL b))), (14, .slice A (listS (ofL a)).length cl), (15, .int .i64 k)] ∧ L = [row (.slice A (listS (ofL a)).length cl) 3 1 (listS (ofL a)).length (intsN (listS (ofL a))), blk g9 (.cells (enc (ofL c)) 27), blk g8 (.cells (enc (ofL b)) 27), blk g7 (.cells (enc (ofL a)) 27)]) (n := (listI (ofL a)).length) ⟨0, rfl, Nat.zero_le _, ⟨rfl, rfl, rfl, rfl, rfl, rfl, rfl, trivial⟩, rfl⟩ ?_
  rintro _ σ L ⟨k, rfl, hk, hs, rfl⟩
  have hll := listI_len (ofL a)
  refine Cd.has hs ?_
  refine Cd.seq ?_
  refine Cd.seq ?_
  refine Cd.region ?_
  refine Ol.p mvi ?_
  refine Ol.p mvs ?_
  refine Ol.p (lens sl_L_int) ?_
  refine Ol.p lsi ?_
  refine Ol.nil ?_
  refine Cd.cond rfl (fun h => ?_) (fun h => ?_)
  · have hlt : k < (listI (ofL a)).length := by simp at h; omega
    have hhas : hasP a (listI (ofL a))[k] = true := by
      obtain ⟨n, e, _, h1, h2⟩ := listI_get hlt
      rw [e]; exact hasP_list h1 h2
    have f7 : (!hasP a (listI (ofL a))[k]) = false := by rw [hhas]; rfl
    refine Cd.skip ?_
    refine Cd.seq ?_
    refine Cd.block ?_
    refine Cd.mid (fun σ' L' => ∃ bb, Has σ' [(0, .slice A1 a.length c1), (7, .pointer (some ⟨g7, 0, none⟩)), (8, .pointer (some ⟨g8, 0, none⟩)), (9, .pointer (some ⟨g9, 0, none⟩)), (10, .bool (decide (ofL a = ofL b))), (14, .slice A (listS (ofL a)).length cl), (15, .int .i64 k), (121, .bool bb)] ∧ bb = false ∧ L' = [row (.slice A (listS (ofL a)).length cl) 3 1 (listS (ofL a)).length (intsN (listS (ofL a))), blk g9 (.cells (enc (ofL c)) 27), blk g8 (.cells (enc (ofL b)) 27), blk g7 (.cells (enc (ofL a)) 27)]) ?_ ?_
    · rcases Nat.eq_zero_or_pos k with h0 | h0
      · have f10 : decide ((0 : Int) < (k : Int)) = false := by rw [h0]; rfl
        refine Cd.draw mixed 23 (exIs (fun opNo => match opNo with | 5 => some (.bool (hasP a (listI (ofL a))[k])) | _ => none)) (fun _ => []) (by kernel_rfl) exIs_in (fun u hu => ?_)
        refine Wk.p mvs ?_
        refine Wk.p mvs ?_
        refine Wk.p mvi ?_
        refine Wk.p (ixn1 sl_L_int (Som.row (i := 0) rfl (by omega))) ?_
        refine Wk.p (ld one_int (Rd.row (i := 0) rfl (hgt hlt))) ?_
        refine Wk.dk hu (sp_call en_law15_has (fun M w' hh => law15_has_ct (ha.now hh) (by omega))) ?_
        refine Wk.p noti ?_
        refine Wk.p mvb ?_
        refine Wk.gp f7 mvi ?_
        refine Wk.gp f7 gti ?_
        refine Wk.gp f7 mvb ?_
        refine Wk.gn f10 ?_
        refine Wk.gn f10 ?_
        refine Wk.gn f10 ?_
        refine Wk.gn f10 ?_
        refine Wk.gn f10 ?_
        refine Wk.gn f10 ?_
        refine Wk.gn f10 ?_
        refine Wk.gn f10 ?_
        refine Wk.gn f10 ?_
        refine Wk.gn f10 ?_
        refine Wk.gp f7 (pkFb f10) ?_
        refine Wk.p (pkFb f7) ?_
        refine Wk.nil ?_
        rw [needs_exIs hu rfl]
        refine Ol.nil ?_
        exact ⟨_, ⟨rfl, rfl, rfl, rfl, rfl, rfl, rfl, rfl, trivial⟩, rfl, rfl⟩
      · obtain ⟨j, rfl⟩ : ∃ j, k = j + 1 := ⟨k - 1, by omega⟩
        have f10 : decide ((0 : Int) < ((j + 1 : Nat) : Int)) = true := by simp
        have hj : j < (listI (ofL a)).length := by omega
        have f20 : decide ((listI (ofL a))[j + 1] ≤ (listI (ofL a))[j]) = false := by
          have := listI_rise (s := ofL a) (i := j) hlt
          simp; omega
        have ej : ((j + 1 : Nat) : Int) - 1 = (j : Int) := by omega
        refine Cd.draw mixed 23 (exIs (fun opNo => match opNo with | 5 => some (.bool (hasP a (listI (ofL a))[j + 1])) | _ => none)) (fun _ => []) (by kernel_rfl) exIs_in (fun u hu => ?_)
        refine Wk.p mvs ?_
        refine Wk.p mvs ?_
        refine Wk.p mvi ?_
        refine Wk.p (ixn1 sl_L_int (Som.row (i := 0) rfl (by omega))) ?_
        refine Wk.p (ld one_int (Rd.row (i := 0) rfl (hgt hlt))) ?_
        refine Wk.dk hu (sp_call en_law15_has (fun M w' hh => law15_has_ct (ha.now hh) (by omega))) ?_
        refine Wk.p noti ?_
        refine Wk.p mvb ?_
        refine Wk.gp f7 mvi ?_
        refine Wk.gp f7 gti ?_
        refine Wk.gp f7 mvb ?_
        refine Wk.gp f10 mvs ?_
        refine Wk.gp f10 mvi ?_
        refine Wk.gp f10 subi ?_
        refine Wk.gp f10 (ixn1 (ix := j) sl_L_int (Som.row (i := 0) rfl (by omega)) rfl (by show Value.int .i64 _ = Value.int .i64 _; rw [← ej])) ?_
        refine Wk.gp f10 (ld one_int (Rd.row (i := 0) rfl (hgt hj))) ?_
        refine Wk.gp f10 mvs ?_
        refine Wk.gp f10 mvi ?_
        refine Wk.gp f10 (ixn1 sl_L_int (Som.row (i := 0) rfl (by omega))) ?_
        refine Wk.gp f10 (ld one_int (Rd.row (i := 0) rfl (hgt hlt))) ?_
        refine Wk.gp f10 gei ?_
        refine Wk.gp f7 (pkTb f10) ?_
        refine Wk.p (pkFb f7) ?_
        refine Wk.nil ?_
        rw [needs_exIs hu rfl]
        refine Ol.nil ?_
        exact ⟨_, ⟨rfl, rfl, rfl, rfl, rfl, rfl, rfl, rfl, trivial⟩, f20, rfl⟩
    · rintro σ' _ ⟨bb, hs', rfl, rfl⟩
      refine Cd.has hs' ?_
      refine Cd.cond rfl (fun h => by cases h) (fun h => ?_)
      refine Cd.skip ?_
      refine Cd.region ?_
      refine Ol.p mvi ?_
      refine Ol.p addi ?_
      refine Ol.p asi ?_
      refine Ol.nil ?_
      refine ⟨(listI (ofL a)).length - (k + 1), by omega, k + 1, rfl, by omega, ⟨rfl, rfl, rfl, rfl, rfl, rfl, rfl, trivial⟩, rfl⟩
  have hge : k = (listI (ofL a)).length := by simp at h; omega
  clear hk hge h
  refine Cd.exit (id := 2) ?_
  refine Cd.seq ?_
  refine Cd.mid (fun σ' L' => ∃ bb, Has σ' [(0, .slice A1 a.length c1), (7, .pointer (some ⟨g7, 0, none⟩)), (8, .pointer (some ⟨g8, 0, none⟩)), (9, .pointer (some ⟨g9, 0, none⟩)), (10, .bool (decide (ofL a = ofL b))), (14, .slice A (listS (ofL a)).length cl), (152, .bool bb)] ∧ bb = false ∧ L' = [row (.slice A (listS (ofL a)).length cl) 3 1 (listS (ofL a)).length (intsN (listS (ofL a))), blk g9 (.cells (enc (ofL c)) 27), blk g8 (.cells (enc (ofL b)) 27), blk g7 (.cells (enc (ofL a)) 27)]) ?_ ?_
  · have q2 := enc_iff (ofL_sm a) (ofL_sm b)
    have f5 : (!(decide (ofL a = ofL b) == decide (ofL a = ofL b))) = false := by simp
    have f12 : (!decide (((listS (ofL a)).length : Int) = (manyF (ofL a) 16 : Int))) = false := by rw [many_list]; simp
    have q16 := eq_tr (ofL_listI (ofL_sm a))
    rcases Nat.eq_zero_or_pos (listI (ofL a)).length with h0 | h0
    · have f22 : decide ((0 : Int) < ((listS (ofL a)).length : Int)) = false := by rw [← listI_len, h0]; rfl
      refine Cd.draw mixed 31 (exIs (fun opNo => match opNo with | 9 => some (.int .i64 (manyF (ofL a) 16 : Int)) | 14 => some (.agg (enc (ofL (listI (ofL a))))) | _ => none)) (fun _ => []) (by kernel_rfl) exIs_in (fun u hu => ?_)
      refine Wk.p (ldw ag_bits_Set (i := 3) rfl (enc_size _)) ?_
      refine Wk.p (ldw ag_bits_Set (i := 2) rfl (enc_size _)) ?_
      refine Wk.p (eqa cm_bits_Set (enc_size _) (enc_size _) encF_tell q2) ?_
      refine Wk.p mvb ?_
      refine Wk.p (neb bo_bool) ?_
      refine Wk.p mvb ?_
      refine Wk.gp f5 mvs ?_
      refine Wk.gp f5 (lens sl_L_int) ?_
      refine Wk.gp f5 (ldw ag_bits_Set (i := 3) rfl (enc_size _)) ?_
      refine Wk.gdk hu f5 (sp_call en_bits_Set_Many (fun M w' hh => bits_Set_Many_ct)) ?_
      refine Wk.gp f5 nei ?_
      refine Wk.p (pkFb f5) ?_
      refine Wk.p mvb ?_
      refine Wk.gp f12 mvs ?_
      refine Wk.gdk hu f12 (sp_call en_bits_Of (fun M w' hh => by have h := bits_Of_ct (c := cl) (l := listI (ofL a)) (hrow M w' hh) (listI_i64 _) (by omega); rw [listI_len] at h; exact h)) ?_
      refine Wk.gp f12 (ldw ag_bits_Set (i := 3) rfl (enc_size _)) ?_
      refine Wk.gp f12 (nea cm_bits_Set (enc_size _) (enc_size _) encF_tell q16) ?_
      refine Wk.p (pkFb f12) ?_
      refine Wk.p mvb ?_
      refine Wk.gp rfl mvs ?_
      refine Wk.gp rfl (lens sl_L_int) ?_
      refine Wk.gp rfl gti ?_
      refine Wk.gp rfl mvb ?_
      refine Wk.gn f22 ?_
      refine Wk.gn f22 ?_
      refine Wk.gn f22 ?_
      refine Wk.gn f22 ?_
      refine Wk.gn f22 ?_
      refine Wk.gn f22 ?_
      refine Wk.gp rfl (pkFb f22) ?_
      refine Wk.p (pkFb rfl) ?_
      refine Wk.nil ?_
      rw [needs_exIs hu rfl]
      refine Ol.nil ?_
      exact ⟨_, ⟨rfl, rfl, rfl, rfl, rfl, rfl, rfl, trivial⟩, rfl, rfl⟩
    · have f22 : decide ((0 : Int) < ((listS (ofL a)).length : Int)) = true := decide_eq_true (by rw [← listI_len]; omega)
      have f28 : (!decide ((listI (ofL a))[0] = firstS (ofL a))) = false := by rw [firstS_eq (List.getElem?_eq_getElem h0)]; simp
      refine Cd.draw mixed 31 (exIs (fun opNo => match opNo with | 9 => some (.int .i64 (manyF (ofL a) 16 : Int)) | 14 => some (.agg (enc (ofL (listI (ofL a))))) | 27 => some (.int .i64 (firstS (ofL a))) | _ => none)) (fun _ => []) (by kernel_rfl) exIs_in (fun u hu => ?_)
      refine Wk.p (ldw ag_bits_Set (i := 3) rfl (enc_size _)) ?_
      refine Wk.p (ldw ag_bits_Set (i := 2) rfl (enc_size _)) ?_
      refine Wk.p (eqa cm_bits_Set (enc_size _) (enc_size _) encF_tell q2) ?_
      refine Wk.p mvb ?_
      refine Wk.p (neb bo_bool) ?_
      refine Wk.p mvb ?_
      refine Wk.gp f5 mvs ?_
      refine Wk.gp f5 (lens sl_L_int) ?_
      refine Wk.gp f5 (ldw ag_bits_Set (i := 3) rfl (enc_size _)) ?_
      refine Wk.gdk hu f5 (sp_call en_bits_Set_Many (fun M w' hh => bits_Set_Many_ct)) ?_
      refine Wk.gp f5 nei ?_
      refine Wk.p (pkFb f5) ?_
      refine Wk.p mvb ?_
      refine Wk.gp f12 mvs ?_
      refine Wk.gdk hu f12 (sp_call en_bits_Of (fun M w' hh => by have h := bits_Of_ct (c := cl) (l := listI (ofL a)) (hrow M w' hh) (listI_i64 _) (by omega); rw [listI_len] at h; exact h)) ?_
      refine Wk.gp f12 (ldw ag_bits_Set (i := 3) rfl (enc_size _)) ?_
      refine Wk.gp f12 (nea cm_bits_Set (enc_size _) (enc_size _) encF_tell q16) ?_
      refine Wk.p (pkFb f12) ?_
      refine Wk.p mvb ?_
      refine Wk.gp rfl mvs ?_
      refine Wk.gp rfl (lens sl_L_int) ?_
      refine Wk.gp rfl gti ?_
      refine Wk.gp rfl mvb ?_
      refine Wk.gp f22 mvs ?_
      refine Wk.gp f22 (ixn1 (ix := 0) sl_L_int (Som.row (i := 0) rfl (by omega))) ?_
      refine Wk.gp f22 (ld one_int (Rd.row (i := 0) rfl (hgt h0))) ?_
      refine Wk.gp f22 (ldw ag_bits_Set (i := 3) rfl (enc_size _)) ?_
      refine Wk.gdk hu f22 (sp_call en_bits_Set_First (fun M w' hh => bits_Set_First_ct (hT.now hh))) ?_
      refine Wk.gp f22 nei ?_
      refine Wk.gp rfl (pkTb f22) ?_
      refine Wk.p (pkFb rfl) ?_
      refine Wk.nil ?_
      rw [needs_exIs hu rfl]
      refine Ol.nil ?_
      exact ⟨_, ⟨rfl, rfl, rfl, rfl, rfl, rfl, rfl, trivial⟩, f28, rfl⟩
  · rintro σ' _ ⟨bb, hs', rfl, rfl⟩
    refine Cd.has hs' ?_
    refine Cd.cond rfl (fun h => by cases h) (fun h => ?_)
    refine Cd.skip ?_
    refine Cd.seq ?_
    refine Cd.draw mixed 92 (exIs (fun opNo => match opNo with | 2 => some (.agg (enc ((ofL a) ||| (ofL b)))) | 5 => some (.agg (enc ((ofL b) ||| (ofL a)))) | 10 => some (.agg (enc ((ofL a) &&& (ofL b)))) | 13 => some (.agg (enc ((ofL b) &&& (ofL a)))) | 19 => some (.agg (enc ((ofL a) ||| (ofL b)))) | 21 => some (.agg (enc (((ofL a) ||| (ofL b)) ||| (ofL c)))) | 25 => some (.agg (enc ((ofL b) ||| (ofL c)))) | 26 => some (.agg (enc ((ofL a) ||| ((ofL b) ||| (ofL c))))) | 32 => some (.agg (enc ((ofL a) &&& (ofL b)))) | 34 => some (.agg (enc (((ofL a) &&& (ofL b)) &&& (ofL c)))) | 38 => some (.agg (enc ((ofL b) &&& (ofL c)))) | 39 => some (.agg (enc ((ofL a) &&& ((ofL b) &&& (ofL c))))) | 46 => some (.agg (enc ((ofL b) ||| (ofL c)))) | 47 => some (.agg (enc ((ofL a) &&& ((ofL b) ||| (ofL c))))) | 50 => some (.agg (enc ((ofL a) &&& (ofL b)))) | 53 => some (.agg (enc ((ofL a) &&& (ofL c)))) | 54 => some (.agg (enc (((ofL a) &&& (ofL b)) ||| ((ofL a) &&& (ofL c))))) | 61 => some (.agg (enc ((ofL b) &&& (ofL c)))) | 62 => some (.agg (enc ((ofL a) ||| ((ofL b) &&& (ofL c))))) | 65 => some (.agg (enc ((ofL a) ||| (ofL b)))) | 68 => some (.agg (enc ((ofL a) ||| (ofL c)))) | 69 => some (.agg (enc (((ofL a) ||| (ofL b)) &&& ((ofL a) ||| (ofL c))))) | 75 => some (.agg (enc (less (ofL a) (ofL b)))) | 78 => some (.agg (enc ((ofL a) &&& (ofL b)))) | 79 => some (.agg (enc ((less (ofL a) (ofL b)) ||| ((ofL a) &&& (ofL b))))) | 86 => some (.agg (enc (less (ofL a) (ofL b)))) | 88 => some (.agg (enc ((less (ofL a) (ofL b)) &&& (ofL b)))) | _ => none)) (fun _ => []) (by kernel_rfl) exIs_in (fun u hu => ?_)
    refine Wk.p (ldw ag_bits_Set (i := 3) rfl (enc_size _)) ?_
    refine Wk.p (ldw ag_bits_Set (i := 2) rfl (enc_size _)) ?_
    refine Wk.dk hu (sp_call en_bits_Set_Or (fun M w' hh => bits_Set_Or_ct (s := (ofL a)) (t := (ofL b)))) ?_
    refine Wk.p (ldw ag_bits_Set (i := 2) rfl (enc_size _)) ?_
    refine Wk.p (ldw ag_bits_Set (i := 3) rfl (enc_size _)) ?_
    refine Wk.dk hu (sp_call en_bits_Set_Or (fun M w' hh => bits_Set_Or_ct (s := (ofL b)) (t := (ofL a)))) ?_
    refine Wk.p (eqa cm_bits_Set (enc_size _) (enc_size _) encF_tell q6) ?_
    refine Wk.p mvb ?_
    refine Wk.gp rfl (ldw ag_bits_Set (i := 3) rfl (enc_size _)) ?_
    refine Wk.gp rfl (ldw ag_bits_Set (i := 2) rfl (enc_size _)) ?_
    refine Wk.gdk hu rfl (sp_call en_bits_Set_And (fun M w' hh => bits_Set_And_ct (s := (ofL a)) (t := (ofL b)))) ?_
    refine Wk.gp rfl (ldw ag_bits_Set (i := 2) rfl (enc_size _)) ?_
    refine Wk.gp rfl (ldw ag_bits_Set (i := 3) rfl (enc_size _)) ?_
    refine Wk.gdk hu rfl (sp_call en_bits_Set_And (fun M w' hh => bits_Set_And_ct (s := (ofL b)) (t := (ofL a)))) ?_
    refine Wk.gp rfl (eqa cm_bits_Set (enc_size _) (enc_size _) encF_tell q14) ?_
    refine Wk.p (pkTb rfl) ?_
    refine Wk.p mvb ?_
    refine Wk.gp rfl (ldw ag_bits_Set (i := 3) rfl (enc_size _)) ?_
    refine Wk.gp rfl (ldw ag_bits_Set (i := 2) rfl (enc_size _)) ?_
    refine Wk.gdk hu rfl (sp_call en_bits_Set_Or (fun M w' hh => bits_Set_Or_ct (s := (ofL a)) (t := (ofL b)))) ?_
    refine Wk.gp rfl (ldw ag_bits_Set (i := 1) rfl (enc_size _)) ?_
    refine Wk.gdk hu rfl (sp_call en_bits_Set_Or (fun M w' hh => bits_Set_Or_ct (s := ((ofL a) ||| (ofL b))) (t := (ofL c)))) ?_
    refine Wk.gp rfl (ldw ag_bits_Set (i := 3) rfl (enc_size _)) ?_
    refine Wk.gp rfl (ldw ag_bits_Set (i := 2) rfl (enc_size _)) ?_
    refine Wk.gp rfl (ldw ag_bits_Set (i := 1) rfl (enc_size _)) ?_
    refine Wk.gdk hu rfl (sp_call en_bits_Set_Or (fun M w' hh => bits_Set_Or_ct (s := (ofL b)) (t := (ofL c)))) ?_
    refine Wk.gdk hu rfl (sp_call en_bits_Set_Or (fun M w' hh => bits_Set_Or_ct (s := (ofL a)) (t := ((ofL b) ||| (ofL c))))) ?_
    refine Wk.gp rfl (eqa cm_bits_Set (enc_size _) (enc_size _) encF_tell q27) ?_
    refine Wk.p (pkTb rfl) ?_
    refine Wk.p mvb ?_
    refine Wk.gp rfl (ldw ag_bits_Set (i := 3) rfl (enc_size _)) ?_
    refine Wk.gp rfl (ldw ag_bits_Set (i := 2) rfl (enc_size _)) ?_
    refine Wk.gdk hu rfl (sp_call en_bits_Set_And (fun M w' hh => bits_Set_And_ct (s := (ofL a)) (t := (ofL b)))) ?_
    refine Wk.gp rfl (ldw ag_bits_Set (i := 1) rfl (enc_size _)) ?_
    refine Wk.gdk hu rfl (sp_call en_bits_Set_And (fun M w' hh => bits_Set_And_ct (s := ((ofL a) &&& (ofL b))) (t := (ofL c)))) ?_
    refine Wk.gp rfl (ldw ag_bits_Set (i := 3) rfl (enc_size _)) ?_
    refine Wk.gp rfl (ldw ag_bits_Set (i := 2) rfl (enc_size _)) ?_
    refine Wk.gp rfl (ldw ag_bits_Set (i := 1) rfl (enc_size _)) ?_
    refine Wk.gdk hu rfl (sp_call en_bits_Set_And (fun M w' hh => bits_Set_And_ct (s := (ofL b)) (t := (ofL c)))) ?_
    refine Wk.gdk hu rfl (sp_call en_bits_Set_And (fun M w' hh => bits_Set_And_ct (s := (ofL a)) (t := ((ofL b) &&& (ofL c))))) ?_
    refine Wk.gp rfl (eqa cm_bits_Set (enc_size _) (enc_size _) encF_tell q40) ?_
    refine Wk.p (pkTb rfl) ?_
    refine Wk.p mvb ?_
    refine Wk.gp rfl (ldw ag_bits_Set (i := 3) rfl (enc_size _)) ?_
    refine Wk.gp rfl (ldw ag_bits_Set (i := 2) rfl (enc_size _)) ?_
    refine Wk.gp rfl (ldw ag_bits_Set (i := 1) rfl (enc_size _)) ?_
    refine Wk.gdk hu rfl (sp_call en_bits_Set_Or (fun M w' hh => bits_Set_Or_ct (s := (ofL b)) (t := (ofL c)))) ?_
    refine Wk.gdk hu rfl (sp_call en_bits_Set_And (fun M w' hh => bits_Set_And_ct (s := (ofL a)) (t := ((ofL b) ||| (ofL c))))) ?_
    refine Wk.gp rfl (ldw ag_bits_Set (i := 3) rfl (enc_size _)) ?_
    refine Wk.gp rfl (ldw ag_bits_Set (i := 2) rfl (enc_size _)) ?_
    refine Wk.gdk hu rfl (sp_call en_bits_Set_And (fun M w' hh => bits_Set_And_ct (s := (ofL a)) (t := (ofL b)))) ?_
    refine Wk.gp rfl (ldw ag_bits_Set (i := 3) rfl (enc_size _)) ?_
    refine Wk.gp rfl (ldw ag_bits_Set (i := 1) rfl (enc_size _)) ?_
    refine Wk.gdk hu rfl (sp_call en_bits_Set_And (fun M w' hh => bits_Set_And_ct (s := (ofL a)) (t := (ofL c)))) ?_
    refine Wk.gdk hu rfl (sp_call en_bits_Set_Or (fun M w' hh => bits_Set_Or_ct (s := ((ofL a) &&& (ofL b))) (t := ((ofL a) &&& (ofL c))))) ?_
    refine Wk.gp rfl (eqa cm_bits_Set (enc_size _) (enc_size _) encF_tell q55) ?_
    refine Wk.p (pkTb rfl) ?_
    refine Wk.p mvb ?_
    refine Wk.gp rfl (ldw ag_bits_Set (i := 3) rfl (enc_size _)) ?_
    refine Wk.gp rfl (ldw ag_bits_Set (i := 2) rfl (enc_size _)) ?_
    refine Wk.gp rfl (ldw ag_bits_Set (i := 1) rfl (enc_size _)) ?_
    refine Wk.gdk hu rfl (sp_call en_bits_Set_And (fun M w' hh => bits_Set_And_ct (s := (ofL b)) (t := (ofL c)))) ?_
    refine Wk.gdk hu rfl (sp_call en_bits_Set_Or (fun M w' hh => bits_Set_Or_ct (s := (ofL a)) (t := ((ofL b) &&& (ofL c))))) ?_
    refine Wk.gp rfl (ldw ag_bits_Set (i := 3) rfl (enc_size _)) ?_
    refine Wk.gp rfl (ldw ag_bits_Set (i := 2) rfl (enc_size _)) ?_
    refine Wk.gdk hu rfl (sp_call en_bits_Set_Or (fun M w' hh => bits_Set_Or_ct (s := (ofL a)) (t := (ofL b)))) ?_
    refine Wk.gp rfl (ldw ag_bits_Set (i := 3) rfl (enc_size _)) ?_
    refine Wk.gp rfl (ldw ag_bits_Set (i := 1) rfl (enc_size _)) ?_
    refine Wk.gdk hu rfl (sp_call en_bits_Set_Or (fun M w' hh => bits_Set_Or_ct (s := (ofL a)) (t := (ofL c)))) ?_
    refine Wk.gdk hu rfl (sp_call en_bits_Set_And (fun M w' hh => bits_Set_And_ct (s := ((ofL a) ||| (ofL b))) (t := ((ofL a) ||| (ofL c))))) ?_
    refine Wk.gp rfl (eqa cm_bits_Set (enc_size _) (enc_size _) encF_tell q70) ?_
    refine Wk.p (pkTb rfl) ?_
    refine Wk.p mvb ?_
    refine Wk.gp rfl (ldw ag_bits_Set (i := 3) rfl (enc_size _)) ?_
    refine Wk.gp rfl (ldw ag_bits_Set (i := 2) rfl (enc_size _)) ?_
    refine Wk.gdk hu rfl (sp_call en_bits_Set_Less (fun M w' hh => bits_Set_Less_ct (s := (ofL a)) (t := (ofL b)))) ?_
    refine Wk.gp rfl (ldw ag_bits_Set (i := 3) rfl (enc_size _)) ?_
    refine Wk.gp rfl (ldw ag_bits_Set (i := 2) rfl (enc_size _)) ?_
    refine Wk.gdk hu rfl (sp_call en_bits_Set_And (fun M w' hh => bits_Set_And_ct (s := (ofL a)) (t := (ofL b)))) ?_
    refine Wk.gdk hu rfl (sp_call en_bits_Set_Or (fun M w' hh => bits_Set_Or_ct (s := (less (ofL a) (ofL b))) (t := ((ofL a) &&& (ofL b))))) ?_
    refine Wk.gp rfl (ldw ag_bits_Set (i := 3) rfl (enc_size _)) ?_
    refine Wk.gp rfl (eqa cm_bits_Set (enc_size _) (enc_size _) encF_tell q81) ?_
    refine Wk.p (pkTb rfl) ?_
    refine Wk.p mvb ?_
    refine Wk.gp rfl (ldw ag_bits_Set (i := 3) rfl (enc_size _)) ?_
    refine Wk.gp rfl (ldw ag_bits_Set (i := 2) rfl (enc_size _)) ?_
    refine Wk.gdk hu rfl (sp_call en_bits_Set_Less (fun M w' hh => bits_Set_Less_ct (s := (ofL a)) (t := (ofL b)))) ?_
    refine Wk.gp rfl (ldw ag_bits_Set (i := 2) rfl (enc_size _)) ?_
    refine Wk.gdk hu rfl (sp_call en_bits_Set_And (fun M w' hh => bits_Set_And_ct (s := (less (ofL a) (ofL b))) (t := (ofL b)))) ?_
    refine Wk.gp rfl (bda ar_bits_Set zr_bits_Set) ?_
    refine Wk.gp rfl (eqa cm_bits_Set (enc_size _) rfl tell0 (by rw [← enc0]; exact q90)) ?_
    refine Wk.p (pkTb rfl) ?_
    refine Wk.nil ?_
    rw [needs_exIs hu rfl]
    refine Ol.p asb ?_
    refine Ol.nil ?_
    refine Cd.ret ⟨.bool _, ret1 rfl rfl, [], .nil, rfl, rfl⟩
end
end Go.Proofs.YtbcnejobnmljlaaDoor
