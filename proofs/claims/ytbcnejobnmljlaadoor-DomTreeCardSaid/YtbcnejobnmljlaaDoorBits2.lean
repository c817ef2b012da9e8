/- The package bits: what goes through a set's numbers, walked. -/
import Derived.Test.YtbcnejobnmljlaaDoorBits
import Derived.Test.YtbcnejobnmljlaaDoorTz
namespace Go.Proofs.YtbcnejobnmljlaaDoor
set_option linter.unusedVariables false
open Go Go.RowKit
set_option maxRecDepth 100000

/-- The table of math/bits lies as its text lays it. -/
def Tabs (w : World) (B : Nat) : Prop := 0 < B ∧ ∀ k v : Nat, tzTab[k]? = some v → w.cell? ⟨0, k, none⟩ = some (.int .u8 (v : Int))
theorem Tabs.now {w0 w : World} {B : Nat} {L : List Res} (h : Tabs w0 B) (hh : Hp w0 B L w) : Tabs w w.heap.size := ⟨Nat.lt_of_lt_of_le h.1 hh.le, fun k v hk => (hh.below.cell (p := ⟨0, k, none⟩) h.1).trans (h.2 k v hk)⟩
theorem least_pos {w j : Nat} (h : Least w j) : 0 < w := by
  rcases Nat.eq_zero_or_pos w with h0 | h0
  · have := h.1; rw [h0, Nat.zero_testBit] at this; cases this
  · exact h0
section
theorem math_bits_TrailingZeros64_ct {w : World} {x j : Nat} (hT : Tabs w w.heap.size) (hx : x < 2 ^ 64) (hj : Least x j) : Ct Tryd.prog 78 #[.int .u64 (x : Int)] w (Is (.int .i64 (j : Int))) := by
  have hj64 := hj.lt hx
  have hpos := least_pos hj
  have htab : tzTab[(x &&& (2 ^ 64 - x)) * 285870213051353865 % 2 ^ 64 / 2 ^ 58]? = some j := by rw [and_opp hj hx]; exact tz_tab j hj64
  refine Ct.mk Tryd.func78 rfl rfl ?_
  refine Cd.seq ?_
  refine Cd.region ?_
  refine Ol.p asi ?_
  refine Ol.nil ?_
  refine Cd.seq ?_
  refine Cd.seq ?_
  refine Cd.region ?_
  refine Ol.p mvi ?_
  refine Ol.p eqi ?_
  refine Ol.nil ?_
  refine Cd.cond rfl (fun h => ?_) (fun h => ?_)
  · simp at h; omega
  refine Cd.skip ?_
  refine Cd.seq ?_
  refine Cd.region ?_
  refine Ol.p mvi ?_
  refine Ol.p mvi ?_
  refine Ol.p ngu ?_
  refine Ol.p (andu (b := 2 ^ 64 - x)) ?_
  refine Ol.p (mlu (a := x &&& (2 ^ 64 - x)) (b := 285870213051353865)) ?_
  refine Ol.p (shru (n := 58)) ?_
  refine Ol.p (ixl1 (ix := (x &&& (2 ^ 64 - x)) * 285870213051353865 % 2 ^ 64 / 2 ^ 58) ar_A64_uint8 (h := by rw [and_opp hj hx]; exact tz_lt j)) ?_
  refine Ol.p (ld one_uint8 (Rd.inp hT.1 (hT.2 _ j htab))) ?_
  refine Ol.p (cvn in_uint8 in_int) ?_
  refine Ol.p asi ?_
  refine Ol.nil ?_
  refine Cd.ret ⟨.int .i64 _, ret1 rfl rfl, [], .nil, rfl, rfl⟩
end
section
def oc1 (x : Nat) : Nat := ((x / 2 ^ 1 &&& 6148914691236517205) + (x &&& 6148914691236517205)) % 2 ^ 64
def oc2 (x : Nat) : Nat := ((x / 2 ^ 2 &&& 3689348814741910323) + (x &&& 3689348814741910323)) % 2 ^ 64
def oc3 (x : Nat) : Nat := (x / 2 ^ 4 + x) % 2 ^ 64 &&& 1085102592571150095
def oc4 (x : Nat) : Nat := (x + x / 2 ^ 8) % 2 ^ 64
def oc5 (x : Nat) : Nat := (x + x / 2 ^ 16) % 2 ^ 64
def oc6 (x : Nat) : Nat := (x + x / 2 ^ 32) % 2 ^ 64
def ocN (x : Nat) : Nat := oc6 (oc5 (oc4 (oc3 (oc2 (oc1 x))))) % 128
theorem and127 (k : Nat) : k &&& 127 = k % 128 := Nat.and_two_pow_sub_one_eq_mod k 7
theorem oc_lt (a : Nat) : a % 2 ^ 64 < 2 ^ 64 := Nat.mod_lt _ (by decide)
theorem math_bits_OnesCount64_ct {w : World} {x : Nat} (hx : x < 2 ^ 64) : Ct Tryd.prog 49 #[.int .u64 (x : Int)] w (Is (.int .i64 (ocN x : Int))) := by
  refine Ct.mk Tryd.func49 rfl rfl ?_
  refine Cd.seq ?_
  refine Cd.region ?_
  refine Ol.p asi ?_
  refine Ol.nil ?_
  refine Cd.seq ?_
  refine Cd.region ?_
  refine Ol.p mvi ?_
  refine Ol.p (shru (n := 1)) ?_
  refine Ol.p (andu (b := 6148914691236517205)) ?_
  refine Ol.p mvi ?_
  refine Ol.p (andu (b := 6148914691236517205)) ?_
  refine Ol.p adu ?_
  refine Ol.p asi ?_
  refine Ol.nil ?_
  refine Cd.seq ?_
  refine Cd.region ?_
  refine Ol.p mvi ?_
  refine Ol.p (shru (a := oc1 x) (n := 2)) ?_
  refine Ol.p (andu (a := oc1 x / 2 ^ 2) (b := 3689348814741910323) (ha := by have : oc1 x < 2 ^ 64 := oc_lt _; omega)) ?_
  refine Ol.p mvi ?_
  refine Ol.p (andu (a := oc1 x) (b := 3689348814741910323) (ha := oc_lt _)) ?_
  refine Ol.p adu ?_
  refine Ol.p asi ?_
  refine Ol.nil ?_
  refine Cd.seq ?_
  refine Cd.region ?_
  refine Ol.p mvi ?_
  refine Ol.p (shru (a := oc2 (oc1 x)) (n := 4)) ?_
  refine Ol.p mvi ?_
  refine Ol.p (adu (a := oc2 (oc1 x) / 2 ^ 4) (b := oc2 (oc1 x))) ?_
  refine Ol.p (andu (b := 1085102592571150095) (ha := oc_lt _)) ?_
  refine Ol.p asi ?_
  refine Ol.nil ?_
  refine Cd.seq ?_
  refine Cd.region ?_
  refine Ol.p mvi ?_
  refine Ol.p mvi ?_
  refine Ol.p (shru (a := oc3 (oc2 (oc1 x))) (n := 8)) ?_
  refine Ol.p (adu (a := oc3 (oc2 (oc1 x))) (b := oc3 (oc2 (oc1 x)) / 2 ^ 8)) ?_
  refine Ol.p asi ?_
  refine Ol.nil ?_
  refine Cd.seq ?_
  refine Cd.region ?_
  refine Ol.p mvi ?_
  refine Ol.p mvi ?_
  refine Ol.p (shru (a := oc4 (oc3 (oc2 (oc1 x)))) (n := 16)) ?_
  refine Ol.p (adu (a := oc4 (oc3 (oc2 (oc1 x)))) (b := oc4 (oc3 (oc2 (oc1 x))) / 2 ^ 16)) ?_
  refine Ol.p asi ?_
  refine Ol.nil ?_
  refine Cd.seq ?_
  refine Cd.region ?_
  refine Ol.p mvi ?_
  refine Ol.p mvi ?_
  refine Ol.p (shru (a := oc5 (oc4 (oc3 (oc2 (oc1 x))))) (n := 32)) ?_
  refine Ol.p (adu (a := oc5 (oc4 (oc3 (oc2 (oc1 x))))) (b := oc5 (oc4 (oc3 (oc2 (oc1 x)))) / 2 ^ 32)) ?_
  refine Ol.p asi ?_
  refine Ol.nil ?_
  refine Cd.seq ?_
  refine Cd.region ?_
  refine Ol.p mvi ?_
  refine Ol.p (cvw in_uint64 in_int) ?_
  refine Ol.p (an127 (a := oc6 (oc5 (oc4 (oc3 (oc2 (oc1 x)))))) (oc_lt _)) ?_
  refine Ol.p asi ?_
  refine Ol.nil ?_
  refine Cd.ret ⟨.int .i64 _, ret1 rfl rfl, [], .nil, rfl, rfl⟩
end
section
/-- What is yielded of a set. -/
def ysS (s : Nat) : List (List Value) := (listS s).map fun n : Nat => [.int .i64 (n : Int)]
/-- The value that goes through a set: its box. -/
def EachV (g : Nat) : Value := .func (.func 77) #[] #[.pointer (some ⟨g, 0, none⟩)]
theorem bits_Set_each_ct {w : World} {s : Nat} : Ct Tryd.prog 48 #[.agg (enc s)] w (fun v L => ∃ g, v = EachV g ∧ L = [blk g (.cells (enc s) 27)]) := by
  refine Ct.mk Tryd.func48 rfl rfl ?_
  refine Cd.seq ?_
  refine Cd.region ?_
  refine Ol.x bxg ?_
  rintro _ _ ⟨g1, rfl, rfl⟩
  refine Ol.p (as_ rfl) ?_
  refine Ol.nil ?_
  refine Cd.seq ?_
  refine Cd.region ?_
  refine Ol.p mkf ?_
  refine Ol.p asf ?_
  refine Ol.nil ?_
  refine Cd.ret ⟨_, ret1 rfl rfl, _, .all, g1, rfl, rfl⟩
theorem bits_Set_each_1_it {w0 : World} {B g s : Nat} (hT : Tabs w0 B) : It Tryd.prog w0 B 77 #[.pointer (some ⟨g, 0, none⟩)] [blk g (.cells (enc s) 27)] (ysS s) := by
  intro y J Jx L0 hY h0
  refine Cm.mk Tryd.func77 rfl rfl fun M => ?_
  have hret : ∀ {σ : Env} {Lj : List Res}, (J (ysS s).length Lj ∨ ∃ k, Jx k Lj) → Out ⟨Tryd.prog, 25, none, w0, B, M⟩ Tryd.f77 (fun _ L => ∃ Own' Lj, L = Own' ++ Lj ∧ (J (ysS s).length Lj ∨ ∃ k, Jx k Lj)) .ret σ (blk g (.cells (enc s) 27) :: Lj) := fun {σ Lj} h => ⟨_, ret0 rfl, _, .all, [_], Lj, rfl, h⟩
  refine Cd.seq ?_
  refine Cd.region ?_
  refine Ol.p (ldw ag_bits_Set (i := 0) rfl (enc_size _)) ?_
  refine Ol.p mvi ?_
  refine Ol.nil ?_
  refine Cd.block ?_
  refine Cd.loop (fun m σ L => ∃ k Lj, m = 16 - k ∧ k ≤ 16 ∧ Has σ [(0, .func (.yield y) #[] #[]), (5, .agg (enc s)), (6, .int .i64 k)] ∧ L = blk g (.cells (enc s) 27) :: Lj ∧ J (upto s (64 * k)).length Lj) (n := 16) ⟨0, L0, rfl, Nat.zero_le _, ⟨rfl, rfl, rfl, trivial⟩, rfl, h0⟩ ?_
  rintro _ σ L ⟨k, Lj, rfl, hk, hs, rfl, hJ⟩
  refine Cd.has hs ?_
  refine Cd.seq ?_
  refine Cd.region ?_
  refine Ol.p lsi ?_
  refine Ol.nil ?_
  refine Cd.seq ?_
  refine Cd.cond rfl (fun h => ?_) (fun h => ?_)
  · have hlt : k < 16 := by simp at h; omega
    refine Cd.skip ?_
    refine Cd.mid (fun σ' L' => ∃ Lj', Has σ' [(0, .func (.yield y) #[] #[]), (5, .agg (enc s)), (6, .int .i64 k)] ∧ L' = blk g (.cells (enc s) 27) :: Lj' ∧ J (upto s (64 * (k + 1))).length Lj') ?_ ?_
    · refine Cd.block ?_
      refine Cd.seq ?_
      refine Cd.region ?_
      refine Ol.p mvi ?_
      refine Ol.p (ixv ar_bits_Set one_uint64 hlt (encF_get hlt)) ?_
      refine Ol.p asi ?_
      refine Ol.p asi ?_
      refine Ol.nil ?_
      refine Cd.block ?_
      refine Cd.loop (fun m σ L => ∃ p Lj, m = 64 - p ∧ p ≤ 64 ∧ Has σ [(0, .func (.yield y) #[] #[]), (3, .int .i64 k), (4, .int .u64 (rem (wd s k) p : Nat)), (5, .agg (enc s)), (6, .int .i64 k)] ∧ L = blk g (.cells (enc s) 27) :: Lj ∧ J (upto s (64 * k + p)).length Lj) (n := 64) ⟨0, Lj, rfl, Nat.zero_le _, ⟨rfl, rfl, by rw [rem_zero]; rfl, rfl, rfl, trivial⟩, rfl, hJ⟩ ?_
      rintro _ σ L ⟨p, Lj, rfl, hp, hs, rfl, hJ⟩
      refine Cd.has hs ?_
      refine Cd.seq ?_
      refine Cd.seq ?_
      refine Cd.region ?_
      refine Ol.p mvi ?_
      refine Ol.p nei ?_
      refine Ol.nil ?_
      refine Cd.cond rfl (fun h => ?_) (fun h => ?_)
      · have hne : rem (wd s k) p ≠ 0 := by
          intro e; rw [e] at h; simp at h
        obtain ⟨j, hj⟩ := least_ex hne
        have hr64 : rem (wd s k) p < 2 ^ 64 := rem_lt (wd_lt s k)
        have hj64 := hj.lt hr64
        have hj1 := hj.1
        rw [testBit_rem, testBit_wd] at hj1
        simp only [Bool.and_eq_true, decide_eq_true_eq] at hj1
        obtain ⟨hpj, _, hbit⟩ := hj1
        have hskip : upto s (64 * k + j) = upto s (64 * k + p) := upto_skip (by omega) fun i h1 h2 => by
          have := hj.2 (i - 64 * k) (by omega)
          rw [testBit_rem, testBit_wd] at this
          have e1 : p ≤ i - 64 * k := by omega
          have e2 : i - 64 * k < 64 := by omega
          have e3 : 64 * k + (i - 64 * k) = i := by omega
          rw [e3] at this
          simpa [e1, e2] using this
        have hy1 : (ysS s)[(upto s (64 * k + p)).length]? = some [.int .i64 (((k * 2 ^ 6 : Nat) : Int) + (j : Int))] := by
          rw [← hskip]
          unfold ysS
          rw [List.getElem?_map, listS_get hbit (by omega)]
          simp only [Option.map_some]
          have : ((64 * k + j : Nat) : Int) = ((k * 2 ^ 6 : Nat) : Int) + (j : Int) := by omega
          rw [this]
        have hlen : (upto s (64 * k + p)).length + 1 = (upto s (64 * k + (j + 1))).length := by
          rw [show 64 * k + (j + 1) = (64 * k + j) + 1 from by omega, upto_succ, hbit, hskip]
          simp
        refine Cd.skip ?_
        refine Cd.seq ?_
        refine Cd.block ?_
        refine Cd.seq ?_
        refine Cd.region ?_
        refine Ol.p mvf ?_
        refine Ol.p mvi ?_
        refine Ol.p (shln (n := 6)) ?_
        refine Ol.p mvi ?_
        refine Ol.s (cl en_math_bits_TrailingZeros64 (fun M' w' hh => math_bits_TrailingZeros64_ct (hT.now hh) hr64 hj)) ?_
        refine Ol.p (addi (hr := by omega)) ?_
        refine Ol.x (sp_yield (Own := [blk g (.cells (enc s) 27)]) hY hy1 hJ) ?_
        rintro _ _ ⟨b, Lj', rfl, rfl, ht, hf⟩
        refine Ol.p noti ?_
        refine Ol.nil ?_
        rw [hlen] at ht hf
        refine Cd.cond rfl (fun hb => ?_) (fun hb => ?_)
        · have hb' : b = false := by simpa using hb
          refine Cd.ret (hret (.inr ⟨_, hf hb'⟩))
        · have hb' : b = true := by simpa using hb
          refine Cd.skip ?_
          refine Cd.region ?_
          refine Ol.p mvi ?_
          refine Ol.p mvi ?_
          refine Ol.p (sbu (a := rem (wd s k) p) (b := 1)) ?_
          refine Ol.p (andu (b := rem (wd s k) p - 1)) ?_
          refine Ol.p asi ?_
          refine Ol.nil ?_
          refine ⟨64 - (j + 1), by omega, j + 1, Lj', rfl, by omega, ⟨rfl, rfl, ?_, rfl, rfl, trivial⟩, rfl, ht hb'⟩
          rw [← rem_less hj, ← and_pred hj]
          rfl
      · have h0 : rem (wd s k) p = 0 := by
          simp at h; omega
        have hskip : upto s (64 * (k + 1)) = upto s (64 * k + p) := upto_skip (by omega) fun i h1 h2 => by
          have : (rem (wd s k) p).testBit (i - 64 * k) = false := by rw [h0, Nat.zero_testBit]
          rw [testBit_rem, testBit_wd] at this
          have e1 : p ≤ i - 64 * k := by omega
          have e2 : i - 64 * k < 64 := by omega
          have e3 : 64 * k + (i - 64 * k) = i := by omega
          rw [e3] at this
          simpa [e1, e2] using this
        refine Cd.exit (id := 2) ?_
        rw [← hskip] at hJ
        exact ⟨Lj, ⟨rfl, rfl, rfl, trivial⟩, rfl, hJ⟩
    · rintro σ' _ ⟨Lj', hs', rfl, hJ'⟩
      refine Cd.has hs' ?_
      refine Cd.region ?_
      refine Ol.p addi ?_
      refine Ol.p mvi ?_
      refine Ol.nil ?_
      exact ⟨16 - (k + 1), by omega, k + 1, Lj', rfl, by omega, ⟨rfl, rfl, rfl, trivial⟩, rfl, hJ'⟩
  · have hge : k = 16 := by simp at h; omega
    subst hge
    refine Cd.exit (id := 0) ?_
    refine hret (.inl ?_)
    have : (ysS s).length = (upto s (64 * 16)).length := by simp [ysS, listS]
    rw [this]; exact hJ
end
section
def intsN (l : List Nat) : List Value := l.map fun n : Nat => .int .i64 (n : Int)
theorem ysS_get {s k : Nat} {vs : List Value} (h : (ysS s)[k]? = some vs) : ∃ n, (listS s)[k]? = some n ∧ vs = [.int .i64 (n : Int)] ∧ k < (listS s).length := by
  unfold ysS at h
  rw [List.getElem?_map] at h
  cases hn : (listS s)[k]? with
  | none => rw [hn] at h; cases h
  | some n => rw [hn] at h; cases h; exact ⟨n, rfl, rfl, (List.getElem?_eq_some_iff.1 hn).1⟩
theorem take_snoc? {α : Type} {l : List α} {k : Nat} {x : α} (h : l[k]? = some x) : l.take (k + 1) = l.take k ++ [x] := by
  obtain ⟨h1, h2⟩ := List.getElem?_eq_some_iff.1 h
  rw [take_snoc h1, h2]
theorem bits_Set_List_ct {w : World} {s : Nat} (hT : Tabs w w.heap.size) : Ct Tryd.prog 20 #[.agg (enc s)] w (NewL 3 1 (listS s).length (intsN (listS s))) := by
  refine Ct.mk Tryd.func20 rfl rfl ?_
  refine Cd.seq ?_
  refine Cd.region ?_
  refine Ol.x bxg ?_
  rintro _ _ ⟨g1, rfl, rfl⟩
  refine Ol.x (alc zr_L_int) ?_
  rintro _ _ ⟨g2, rfl, rfl⟩
  refine Ol.nil ?_
  refine Cd.seq ?_
  refine Cd.seq ?_
  refine Cd.region ?_
  refine Ol.p (ldw ag_bits_Set (i := 1) rfl (enc_size _)) ?_
  refine Ol.x (sp_call en_bits_Set_each (fun M w' hh => bits_Set_each_ct)) ?_
  rintro _ _ ⟨_, rfl, gE, rfl, rfl⟩
  refine Ol.nil ?_
  refine Cd.block ?_
  refine Cd.keep (L' := [blk gE (.cells (enc s) 27), blk g2 (.cells #[.slice none 0 0] 22)]) (.sub (.cons_cons _ (.cons_cons _ (.cons _ .slnil)))) ?_
  refine Cd.nr 3 1 ?_
  refine Cd.rf (Own := [blk gE (.cells (enc s) 27)]) (L0 := [row (.slice none 0 0) 3 1 0 [], blk g2 (.cells #[.slice none 0 0] 22)])
    (fun k L => ∃ A c, k ≤ (listS s).length ∧ L = [row (.slice A k c) 3 1 k (intsN ((listS s).take k)), blk g2 (.cells #[.slice A k c] 22)])
    (fun _ _ _ => False) (fun _ h => by cases h) en_bits_Set_each_1 (bits_Set_each_1_it hT) (.swap _ _ _) ⟨none, 0, Nat.zero_le _, rfl⟩ ?_ rfl ?_ ?_ (fun _ _ _ h => h.elim)
  · intro vs hvs
    unfold ysS at hvs
    rw [List.mem_map] at hvs
    obtain ⟨n, _, rfl⟩ := hvs
    rfl
  · rintro l H k vs Lj hk ⟨A, c, hkl, rfl⟩
    obtain ⟨n, hn, rfl, hlt⟩ := ysS_get hk
    have hlen : (listS s).length ≤ 1024 := listS_len_le s
    refine Cd.region ?_
    refine Ol.p asi ?_
    refine Ol.nil ?_
    intro H' r hr
    refine Cd.block ?_
    refine Cd.region ?_
    refine Ol.p (ldv one_L_int (i := 1) rfl) ?_
    refine Ol.p mvi ?_
    refine Ol.x (bsv [.int .i64 (n : Int)] sl_L_int zr_int (by simp [Value.cells])) ?_
    rintro _ _ ⟨gT, rfl, rfl⟩
    refine Ol.x (apn (i := 1) (m := 1) sl_L_int zr_int rfl (by decide) rfl (Src.row (i := 0) rfl rfl) (by intro u hu; cases hu with | head => rfl | tail _ h => cases h) (by unfold maxLen; omega) (by omega)) ?_
    rintro _ _ ⟨A', c', rfl, rfl⟩
    refine Ol.s (stv sz_L_int (i := 2) rfl rfl) ?_
    refine Ol.keep (.sub (.cons _ (.refl _))) ?_
    refine Ol.nil ?_
    refine ⟨A', c', by omega, ?_⟩
    have e : intsN ((listS s).take (k + 1)) = intsN ((listS s).take k) ++ [.int .i64 (n : Int)] := by rw [take_snoc? hn]; simp [intsN]
    rw [e]
    rfl
  · rintro L' ⟨A, c, _, rfl⟩
    rw [show (ysS s).length = (listS s).length by simp [ysS]]
    refine Cd.seq ?_
    refine Cd.region ?_
    refine Ol.p (ldv one_L_int (i := 1) rfl) ?_
    refine Ol.s (stv sz_L_int (i := 1) rfl rfl) ?_
    refine Ol.nil ?_
    rw [List.take_length]
    refine Cd.ret ⟨_, retv rfl one_L_int rfl (i := 1) rfl rfl, _, .sub (.cons_cons _ (.cons _ .slnil)), A, c, rfl, rfl⟩
end
section
def firstS (s : Nat) : Int := match (listS s) with
  | [] => -1
  | n :: _ => (n : Int)
theorem bits_Set_First_ct {w : World} {s : Nat} (hT : Tabs w w.heap.size) : Ct Tryd.prog 22 #[.agg (enc s)] w (Is (.int .i64 (firstS s))) := by
  refine Ct.mk Tryd.func22 rfl rfl ?_
  refine Cd.seq ?_
  refine Cd.region ?_
  refine Ol.x bxg ?_
  rintro _ _ ⟨g1, rfl, rfl⟩
  refine Ol.x (alc zr_int) ?_
  rintro _ _ ⟨g2, rfl, rfl⟩
  refine Ol.nil ?_
  refine Cd.seq ?_
  refine Cd.seq ?_
  refine Cd.region ?_
  refine Ol.p (ldw ag_bits_Set (i := 1) rfl (enc_size _)) ?_
  refine Ol.x (sp_call en_bits_Set_each (fun M w' hh => bits_Set_each_ct)) ?_
  rintro _ _ ⟨_, rfl, gE, rfl, rfl⟩
  refine Ol.nil ?_
  refine Cd.block ?_
  refine Cd.rf (Own := [blk gE (.cells (enc s) 27)]) (L0 := [blk g2 (.cells #[.int .i64 0] 3), blk g1 (.cells (enc s) 27)])
    (fun k L => k = 0 ∧ L = [blk g2 (.cells #[.int .i64 0] 3), blk g1 (.cells (enc s) 27)])
    (fun _ c L => c = .ret ∧ L = [blk g2 (.cells #[.int .i64 (firstS s)] 3), blk g1 (.cells (enc s) 27)]) (fun _ h => by cases h) en_bits_Set_each_1 (bits_Set_each_1_it hT) (.refl _) ⟨rfl, rfl⟩ ?_ rfl ?_ ?_ ?_
  · intro vs hvs
    unfold ysS at hvs
    rw [List.mem_map] at hvs
    obtain ⟨n, _, rfl⟩ := hvs
    rfl
  · rintro l H k vs Lj hk ⟨rfl, rfl⟩
    obtain ⟨n, hn, rfl, hlt⟩ := ysS_get hk
    have hf : firstS s = (n : Int) := by
      unfold firstS
      cases hl : listS s with
      | nil => rw [hl] at hn; cases hn
      | cons m l => rw [hl] at hn; simp at hn; subst hn; rfl
    refine Cd.region ?_
    refine Ol.p asi ?_
    refine Ol.nil ?_
    intro H' r hr
    refine Cd.block ?_
    refine Cd.seq ?_
    refine Cd.region ?_
    refine Ol.p mvi ?_
    refine Ol.s (stv sz_int (i := 0) rfl rfl) ?_
    refine Ol.nil ?_
    refine Cd.ret ⟨rfl, ?_⟩
    rw [hf]
    rfl
  · rintro L' ⟨hlen, rfl⟩
    have hf : firstS s = -1 := by
      unfold firstS
      cases hl : listS s with
      | nil => rfl
      | cons m l => simp [ysS, hl] at hlen
    refine Cd.seq ?_
    refine Cd.region ?_
    refine Ol.s (stv sz_int (i := 0) rfl rfl) ?_
    refine Ol.nil ?_
    refine Cd.ret ⟨_, retv rfl one_int rfl (i := 0) rfl rfl, [], .nil, by rw [hf]; rfl, rfl⟩
  · rintro k _ L' ⟨rfl, rfl⟩
    refine Cd.ret ⟨_, retv rfl one_int rfl (i := 0) rfl rfl, [], .nil, rfl, rfl⟩
end
section
def manyF (s k : Nat) : Nat := ((List.range k).map fun i => ocN (wd s i)).sum
theorem manyF_succ (s k : Nat) : manyF s (k + 1) = manyF s k + ocN (wd s k) := by simp [manyF, List.range_succ]
theorem manyF_lt (s : Nat) : ∀ k, manyF s k ≤ 127 * k
  | 0 => by simp [manyF]
  | k + 1 => by
    have := manyF_lt s k
    have h2 : ocN (wd s k) < 128 := Nat.mod_lt _ (by decide)
    rw [manyF_succ]; omega
theorem bits_Set_Many_ct {w : World} {s : Nat} : Ct Tryd.prog 21 #[.agg (enc s)] w (Is (.int .i64 (manyF s 16 : Int))) := by
  refine Ct.mk Tryd.func21 rfl rfl ?_
  refine Cd.seq ?_
  refine Cd.region ?_
  refine Ol.x bxg ?_
  rintro _ _ ⟨g1, rfl, rfl⟩
  refine Ol.p asi ?_
  refine Ol.nil ?_
  refine Cd.seq ?_
  refine Cd.seq ?_
  refine Cd.region ?_
  refine Ol.p (ldw ag_bits_Set (i := 0) rfl (enc_size _)) ?_
  refine Ol.p mvi ?_
  refine Ol.nil ?_
  refine Cd.block ?_
  refine Cd.loop (fun m σ L => ∃ k, m = 16 - k ∧ k ≤ 16 ∧ Has σ [(2, .int .i64 (manyF s k : Int)), (5, .agg (enc s)), (6, .int .i64 k)] ∧ L = [blk g1 (.cells (enc s) 27)]) (n := 16) ⟨0, rfl, Nat.zero_le _, ⟨rfl, rfl, rfl, trivial⟩, rfl⟩ ?_
  rintro _ σ L ⟨k, rfl, hk, hs, rfl⟩
  refine Cd.has hs ?_
  refine Cd.seq ?_
  refine Cd.region ?_
  refine Ol.p lsi ?_
  refine Ol.nil ?_
  refine Cd.seq ?_
  refine Cd.cond rfl (fun h => ?_) (fun h => ?_)
  · have hlt : k < 16 := by simp at h; omega
    refine Cd.skip ?_
    refine Cd.seq ?_
    refine Cd.block ?_
    refine Cd.seq ?_
    refine Cd.region ?_
    refine Ol.p (ixv ar_bits_Set one_uint64 hlt (encF_get hlt)) ?_
    refine Ol.p asi ?_
    refine Ol.nil ?_
    have h1 := manyF_lt s k
    have h2 : ocN (wd s k) < 128 := Nat.mod_lt _ (by decide)
    refine Cd.region ?_
    refine Ol.p mvi ?_
    refine Ol.p mvi ?_
    refine Ol.s (cl en_math_bits_OnesCount64 (fun M w' hh => math_bits_OnesCount64_ct (wd_lt s k))) ?_
    refine Ol.p addi ?_
    refine Ol.p asi ?_
    refine Ol.nil ?_
    refine Cd.region ?_
    refine Ol.p addi ?_
    refine Ol.p mvi ?_
    refine Ol.nil ?_
    refine ⟨16 - (k + 1), by omega, k + 1, rfl, by omega, ⟨?_, rfl, rfl, trivial⟩, rfl⟩
    rw [manyF_succ]
    rfl
  · have hge : k = 16 := by simp at h; omega
    subst hge
    refine Cd.exit (id := 0) ?_
    refine Cd.seq ?_
    refine Cd.region ?_
    refine Ol.p mvi ?_
    refine Ol.p asi ?_
    refine Ol.nil ?_
    refine Cd.ret ⟨_, ret1 rfl rfl, [], .nil, rfl, rfl⟩
end
end Go.Proofs.YtbcnejobnmljlaaDoor
