/- Part 2 of the proof of FlowTellsC: the texts Bits2, Open, Model, Ir, IrM, Misc, Ins, IrS, RefA, RefB, Reach, Dfs, FlowLaw, IrL, DrawT, NRows, IrV, Flow, IrW, RefC, IrX, Que, IrR, IrU, IrT, Flow2, CountsLaw, RefP, RefD, RefE, Ref10A, Flow3, Order, Struct, Law10, Perm, Ref10B, one behind the other. -/
import Derived.Test.YtkefmjhagmacfaaGreatDoorRows
import Derived.WalkKit
import Derived.ProofKit
import Derived.OpenShut
import Derived.ChangeOld
import Derived.Below
import Derived.SizedLaws
import Derived.LaidMore
import Derived.Stop.Joined
import Derived.LaidHandle
import Derived.Lib.LaidTab
import Derived.ArgAppend
import Derived.Laws.StructEq
import Derived.Test.YtkefmjhagmacfaaGreatDoorFlowTellsCM1
/- The package bits: what goes through a set's numbers, walked. -/
namespace Go.Proofs.YtkefmjhagmacfaaGreatDoor
set_option linter.unusedVariables false
open Go Go.RowKit
set_option maxRecDepth 100000

/-- The table of math/bits lies as its text lays it. -/
def Tabs (w : World) (B : Nat) : Prop := 0 < B ∧ ∀ k v : Nat, tzTab[k]? = some v → w.cell? ⟨0, k, none⟩ = some (.int .u8 (v : Int))
theorem Tabs.now {w0 w : World} {B : Nat} {L : List Res} (h : Tabs w0 B) (hh : Hp w0 B L w) : Tabs w w.heap.size := ⟨Nat.lt_of_lt_of_le h.1 hh.le, fun k v hk => (hh.below.cell (p := ⟨0, k, none⟩) h.1).trans (h.2 k v hk)⟩
theorem least_pos {w j : Nat} (h : Least w j) : 0 < w := by
  rcases Nat.eq_zero_or_pos w with h0 | h0
  · have := h.1; rw [h0, Nat.zero_testBit] at this; cases this
  · exact h0
section
theorem math_bits_TrailingZeros64_ct {w : World} {x j : Nat} (hT : Tabs w w.heap.size) (hx : x < 2 ^ 64) (hj : Least x j) : Ct Tryz.prog 114 #[.int .u64 (x : Int)] w (Is (.int .i64 (j : Int))) := by
  have hj64 := hj.lt hx
  have hpos := least_pos hj
  have htab : tzTab[(x &&& (2 ^ 64 - x)) * 285870213051353865 % 2 ^ 64 / 2 ^ 58]? = some j := by rw [and_opp hj hx]; exact tz_tab j hj64
  refine Ct.mk Tryz.func114 rfl rfl ?_
  refine Cd.seq ?_
  refine Cd.region ?_
  refine Ol.p asi ?_
  refine Ol.nil ?_
  refine Cd.seq ?_
  refine Cd.seq ?_
  refine Cd.region ?_
  refine Ol.p mvi ?_
  refine Ol.p eqi ?_
  refine Ol.nil ?_
  refine Cd.cond rfl (fun h => ?_) (fun h => ?_)
  · simp at h; omega
  refine Cd.skip ?_
  refine Cd.seq ?_
  refine Cd.region ?_
  refine Ol.p mvi ?_
  refine Ol.p mvi ?_
  refine Ol.p ngu ?_
  refine Ol.p (andu (b := 2 ^ 64 - x)) ?_
  refine Ol.p (mlu (a := x &&& (2 ^ 64 - x)) (b := 285870213051353865)) ?_
  refine Ol.p (shru (n := 58)) ?_
  refine Ol.p (ixl1 (ix := (x &&& (2 ^ 64 - x)) * 285870213051353865 % 2 ^ 64 / 2 ^ 58) ar_A64_uint8 (h := by rw [and_opp hj hx]; exact tz_lt j)) ?_
  refine Ol.p (ld one_uint8 (Rd.inp hT.1 (hT.2 _ j htab))) ?_
  refine Ol.p (cvn in_uint8 in_int) ?_
  refine Ol.p asi ?_
  refine Ol.nil ?_
  refine Cd.ret ⟨.int .i64 _, ret1 rfl rfl, [], .nil, rfl, rfl⟩
end
section
/-- What is yielded of a set. -/
def ysS (s : Nat) : List (List Value) := (listS s).map fun n : Nat => [.int .i64 (n : Int)]
/-- The value that goes through a set: its box. -/
def EachV (g : Nat) : Value := .func (.func 113) #[] #[.pointer (some ⟨g, 0, none⟩)]
theorem bits_Set_each_ct {w : World} {s : Nat} : Ct Tryz.prog 85 #[.agg (enc s)] w (fun v L => ∃ g, v = EachV g ∧ L = [blk g (.cells (enc s) 70)]) := by
  refine Ct.mk Tryz.func85 rfl rfl ?_
  refine Cd.seq ?_
  refine Cd.region ?_
  refine Ol.x bxg ?_
  rintro _ _ ⟨g1, rfl, rfl⟩
  refine Ol.p (as_ rfl) ?_
  refine Ol.nil ?_
  refine Cd.seq ?_
  refine Cd.region ?_
  refine Ol.p mkf ?_
  refine Ol.p asf ?_
  refine Ol.nil ?_
  refine Cd.ret ⟨_, ret1 rfl rfl, _, .all, g1, rfl, rfl⟩
theorem bits_Set_each_1_it {w0 : World} {B g s : Nat} (hT : Tabs w0 B) : It Tryz.prog w0 B 113 #[.pointer (some ⟨g, 0, none⟩)] [blk g (.cells (enc s) 70)] (ysS s) := by
  intro y J Jx L0 hY h0
  refine Cm.mk Tryz.func113 rfl rfl fun M => ?_
  have hret : ∀ {σ : Env} {Lj : List Res}, (J (ysS s).length Lj ∨ ∃ k, Jx k Lj) → Out ⟨Tryz.prog, 25, none, w0, B, M⟩ Tryz.f113 (fun _ L => ∃ Own' Lj, L = Own' ++ Lj ∧ (J (ysS s).length Lj ∨ ∃ k, Jx k Lj)) .ret σ (blk g (.cells (enc s) 70) :: Lj) := fun {σ Lj} h => ⟨_, ret0 rfl, _, .all, [_], Lj, rfl, h⟩
  refine Cd.seq ?_
  refine Cd.region ?_
  refine Ol.p (ldw ag_bits_Set (i := 0) rfl (enc_size _)) ?_
  refine Ol.p mvi ?_
  refine Ol.nil ?_
  refine Cd.block ?_
  refine Cd.loop (fun m σ L => ∃ k Lj, m = 16 - k ∧ k ≤ 16 ∧ Has σ [(0, .func (.yield y) #[] #[]), (5, .agg (enc s)), (6, .int .i64 k)] ∧ L = blk g (.cells (enc s) 70) :: Lj ∧ J (upto s (64 * k)).length Lj) (n := 16) ⟨0, L0, rfl, Nat.zero_le _, ⟨rfl, rfl, rfl, trivial⟩, rfl, h0⟩ ?_
  rintro _ σ L ⟨k, Lj, rfl, hk, hs, rfl, hJ⟩
  refine Cd.has hs ?_
  refine Cd.seq ?_
  refine Cd.region ?_
  refine Ol.p lsi ?_
  refine Ol.nil ?_
  refine Cd.seq ?_
  refine Cd.cond rfl (fun h => ?_) (fun h => ?_)
  · have hlt : k < 16 := by simp at h; omega
    refine Cd.skip ?_
    refine Cd.mid (fun σ' L' => ∃ Lj', Has σ' [(0, .func (.yield y) #[] #[]), (5, .agg (enc s)), (6, .int .i64 k)] ∧ L' = blk g (.cells (enc s) 70) :: Lj' ∧ J (upto s (64 * (k + 1))).length Lj') ?_ ?_
    · refine Cd.block ?_
      refine Cd.seq ?_
      refine Cd.region ?_
      refine Ol.p mvi ?_
      refine Ol.p (ixv ar_bits_Set one_uint64 hlt (encF_get hlt)) ?_
      refine Ol.p asi ?_
      refine Ol.p asi ?_
      refine Ol.nil ?_
      refine Cd.block ?_
      refine Cd.loop (fun m σ L => ∃ p Lj, m = 64 - p ∧ p ≤ 64 ∧ Has σ [(0, .func (.yield y) #[] #[]), (3, .int .i64 k), (4, .int .u64 (rem (wd s k) p : Nat)), (5, .agg (enc s)), (6, .int .i64 k)] ∧ L = blk g (.cells (enc s) 70) :: Lj ∧ J (upto s (64 * k + p)).length Lj) (n := 64) ⟨0, Lj, rfl, Nat.zero_le _, ⟨rfl, rfl, by rw [rem_zero]; rfl, rfl, rfl, trivial⟩, rfl, hJ⟩ ?_
      rintro _ σ L ⟨p, Lj, rfl, hp, hs, rfl, hJ⟩
      refine Cd.has hs ?_
      refine Cd.seq ?_
      refine Cd.seq ?_
      refine Cd.region ?_
      refine Ol.p mvi ?_
      refine Ol.p nei ?_
      refine Ol.nil ?_
      refine Cd.cond rfl (fun h => ?_) (fun h => ?_)
      · have hne : rem (wd s k) p ≠ 0 := by
          intro e; rw [e] at h; simp at h
        obtain ⟨j, hj⟩ := least_ex hne
        have hr64 : rem (wd s k) p < 2 ^ 64 := rem_lt (wd_lt s k)
        have hj64 := hj.lt hr64
        have hj1 := hj.1
        rw [testBit_rem, testBit_wd] at hj1
        simp only [Bool.and_eq_true, decide_eq_true_eq] at hj1
        obtain ⟨hpj, _, hbit⟩ := hj1
        have hskip : upto s (64 * k + j) = upto s (64 * k + p) := upto_skip (by omega) fun i h1 h2 => by
          have := hj.2 (i - 64 * k) (by omega)
          rw [testBit_rem, testBit_wd] at this
          have e1 : p ≤ i - 64 * k := by omega
          have e2 : i - 64 * k < 64 := by omega
          have e3 : 64 * k + (i - 64 * k) = i := by omega
          rw [e3] at this
          simpa [e1, e2] using this
        have hy1 : (ysS s)[(upto s (64 * k + p)).length]? = some [.int .i64 (((k * 2 ^ 6 : Nat) : Int) + (j : Int))] := by
          rw [← hskip]
          unfold ysS
          rw [List.getElem?_map, listS_get hbit (by omega)]
          simp only [Option.map_some]
          have : ((64 * k + j : Nat) : Int) = ((k * 2 ^ 6 : Nat) : Int) + (j : Int) := by omega
          rw [this]
        have hlen : (upto s (64 * k + p)).length + 1 = (upto s (64 * k + (j + 1))).length := by
          rw [show 64 * k + (j + 1) = (64 * k + j) + 1 from by omega, upto_succ, hbit, hskip]
          simp
        refine Cd.skip ?_
        refine Cd.seq ?_
        refine Cd.block ?_
        refine Cd.seq ?_
        refine Cd.region ?_
        refine Ol.p mvf ?_
        refine Ol.p mvi ?_
        refine Ol.p (shln (n := 6)) ?_
        refine Ol.p mvi ?_
        refine Ol.s (cl en_math_bits_TrailingZeros64 (fun M' w' hh => math_bits_TrailingZeros64_ct (hT.now hh) hr64 hj)) ?_
        refine Ol.p (addi (hr := by omega)) ?_
        refine Ol.x (sp_yield (Own := [blk g (.cells (enc s) 70)]) hY hy1 hJ) ?_
        rintro _ _ ⟨b, Lj', rfl, rfl, ht, hf⟩
        refine Ol.p noti ?_
        refine Ol.nil ?_
        rw [hlen] at ht hf
        refine Cd.cond rfl (fun hb => ?_) (fun hb => ?_)
        · have hb' : b = false := by simpa using hb
          refine Cd.ret (hret (.inr ⟨_, hf hb'⟩))
        · have hb' : b = true := by simpa using hb
          refine Cd.skip ?_
          refine Cd.region ?_
          refine Ol.p mvi ?_
          refine Ol.p mvi ?_
          refine Ol.p (sbu (a := rem (wd s k) p) (b := 1)) ?_
          refine Ol.p (andu (b := rem (wd s k) p - 1)) ?_
          refine Ol.p asi ?_
          refine Ol.nil ?_
          refine ⟨64 - (j + 1), by omega, j + 1, Lj', rfl, by omega, ⟨rfl, rfl, ?_, rfl, rfl, trivial⟩, rfl, ht hb'⟩
          rw [← rem_less hj, ← and_pred hj]
          rfl
      · have h0 : rem (wd s k) p = 0 := by
          simp at h; omega
        have hskip : upto s (64 * (k + 1)) = upto s (64 * k + p) := upto_skip (by omega) fun i h1 h2 => by
          have : (rem (wd s k) p).testBit (i - 64 * k) = false := by rw [h0, Nat.zero_testBit]
          rw [testBit_rem, testBit_wd] at this
          have e1 : p ≤ i - 64 * k := by omega
          have e2 : i - 64 * k < 64 := by omega
          have e3 : 64 * k + (i - 64 * k) = i := by omega
          rw [e3] at this
          simpa [e1, e2] using this
        refine Cd.exit (id := 2) ?_
        rw [← hskip] at hJ
        exact ⟨Lj, ⟨rfl, rfl, rfl, trivial⟩, rfl, hJ⟩
    · rintro σ' _ ⟨Lj', hs', rfl, hJ'⟩
      refine Cd.has hs' ?_
      refine Cd.region ?_
      refine Ol.p addi ?_
      refine Ol.p mvi ?_
      refine Ol.nil ?_
      exact ⟨16 - (k + 1), by omega, k + 1, Lj', rfl, by omega, ⟨rfl, rfl, rfl, trivial⟩, rfl, hJ'⟩
  · have hge : k = 16 := by simp at h; omega
    subst hge
    refine Cd.exit (id := 0) ?_
    refine hret (.inl ?_)
    have : (ysS s).length = (upto s (64 * 16)).length := by simp [ysS, listS]
    rw [this]; exact hJ
end
def intsN (l : List Nat) : List Value := l.map fun n : Nat => .int .i64 (n : Int)
theorem take_snoc? {α : Type} {l : List α} {k : Nat} {x : α} (h : l[k]? = some x) : l.take (k + 1) = l.take k ++ [x] := by
  obtain ⟨h1, h2⟩ := List.getElem?_eq_some_iff.1 h
  rw [take_snoc h1, h2]
section
theorem ysS_get {s k : Nat} {vs : List Value} (h : (ysS s)[k]? = some vs) : ∃ n, (listS s)[k]? = some n ∧ vs = [.int .i64 (n : Int)] ∧ k < (listS s).length := by
  unfold ysS at h
  rw [List.getElem?_map] at h
  cases hn : (listS s)[k]? with
  | none => rw [hn] at h; cases h
  | some n => rw [hn] at h; cases h; exact ⟨n, rfl, rfl, (List.getElem?_eq_some_iff.1 hn).1⟩
theorem bits_Set_List_ct {w : World} {s : Nat} (hT : Tabs w w.heap.size) : Ct Tryz.prog 64 #[.agg (enc s)] w (NewL 3 1 (listS s).length (intsN (listS s))) := by
  refine Ct.mk Tryz.func64 rfl rfl ?_
  refine Cd.seq ?_
  refine Cd.region ?_
  refine Ol.x bxg ?_
  rintro _ _ ⟨g1, rfl, rfl⟩
  refine Ol.x (alc zr_L_int) ?_
  rintro _ _ ⟨g2, rfl, rfl⟩
  refine Ol.nil ?_
  refine Cd.seq ?_
  refine Cd.seq ?_
  refine Cd.region ?_
  refine Ol.p (ldw ag_bits_Set (i := 1) rfl (enc_size _)) ?_
  refine Ol.x (sp_call en_bits_Set_each (fun M w' hh => bits_Set_each_ct)) ?_
  rintro _ _ ⟨_, rfl, gE, rfl, rfl⟩
  refine Ol.nil ?_
  refine Cd.block ?_
  refine Cd.keep (L' := [blk gE (.cells (enc s) 70), blk g2 (.cells #[.slice none 0 0] 22)]) (.sub (.cons_cons _ (.cons_cons _ (.cons _ .slnil)))) ?_
  refine Cd.nr 3 1 ?_
  refine Cd.rf (Own := [blk gE (.cells (enc s) 70)]) (L0 := [row (.slice none 0 0) 3 1 0 [], blk g2 (.cells #[.slice none 0 0] 22)])
    (fun k L => ∃ A c, k ≤ (listS s).length ∧ L = [row (.slice A k c) 3 1 k (intsN ((listS s).take k)), blk g2 (.cells #[.slice A k c] 22)])
    (fun _ _ _ => False) (fun _ h => by cases h) en_bits_Set_each_1 (bits_Set_each_1_it hT) (.swap _ _ _) ⟨none, 0, Nat.zero_le _, rfl⟩ ?_ rfl ?_ ?_ (fun _ _ _ h => h.elim)
  · intro vs hvs
    unfold ysS at hvs
    rw [List.mem_map] at hvs
    obtain ⟨n, _, rfl⟩ := hvs
    rfl
  · rintro l H k vs Lj hk ⟨A, c, hkl, rfl⟩
    obtain ⟨n, hn, rfl, hlt⟩ := ysS_get hk
    have hlen : (listS s).length ≤ 1024 := listS_len_le s
    refine Cd.region ?_
    refine Ol.p asi ?_
    refine Ol.nil ?_
    intro H' r hr
    refine Cd.block ?_
    refine Cd.region ?_
    refine Ol.p (ldv one_L_int (i := 1) rfl) ?_
    refine Ol.p mvi ?_
    refine Ol.x (bsv [.int .i64 (n : Int)] sl_L_int zr_int (by simp [Value.cells])) ?_
    rintro _ _ ⟨gT, rfl, rfl⟩
    refine Ol.x (apn (i := 1) (m := 1) sl_L_int zr_int rfl (by decide) rfl (Src.row (i := 0) rfl rfl) (by intro u hu; cases hu with | head => rfl | tail _ h => cases h) (by unfold maxLen; omega) (by omega)) ?_
    rintro _ _ ⟨A', c', rfl, rfl⟩
    refine Ol.s (stv sz_L_int (i := 2) rfl rfl) ?_
    refine Ol.keep (.sub (.cons _ (.refl _))) ?_
    refine Ol.nil ?_
    refine ⟨A', c', by omega, ?_⟩
    have e : intsN ((listS s).take (k + 1)) = intsN ((listS s).take k) ++ [.int .i64 (n : Int)] := by rw [take_snoc? hn]; simp [intsN]
    rw [e]
    rfl
  · rintro L' ⟨A, c, _, rfl⟩
    rw [show (ysS s).length = (listS s).length by simp [ysS]]
    refine Cd.seq ?_
    refine Cd.region ?_
    refine Ol.p (ldv one_L_int (i := 1) rfl) ?_
    refine Ol.s (stv sz_L_int (i := 1) rfl rfl) ?_
    refine Ol.nil ?_
    rw [List.take_length]
    refine Cd.ret ⟨_, retv rfl one_L_int rfl (i := 1) rfl rfl, _, .sub (.cons_cons _ (.cons _ .slnil)), A, c, rfl, rfl⟩
end
end Go.Proofs.YtkefmjhagmacfaaGreatDoor

/- Opening arguments for the walks; closing a law's row. -/
namespace Go.Proofs.YtkefmjhagmacfaaGreatDoor
set_option linter.unusedVariables false
open Go.ChangeShapes Go.WideShapes Go.ChangeAt Go.RowKit
set_option maxRecDepth 100000

theorem own_ : ownKnob Tryz.prog.godebug = none := by kernel_rfl
theorem laidOut_ : laidOutB Tryz.prog = true := by kernel_rfl
theorem bytes_int : Tryz.prog.bytesOf 3 = 8 := by kernel_rfl
theorem cells_int : Tryz.prog.cellsOf 3 = 1 := by kernel_rfl
theorem i64_of_wf {n : Int} (h : (Lit.int .i64 n).wf = true) : I64 n := by
  have := bounds_i64 h
  unfold I64; omega
/-- A slice of integers that came in, for the walks. -/
theorem reads_ints {H : Type} {enc : TypeId × Value → H} {W : World} {a : Option Addr} {len cap : Nat} {d : DataW H} {p : List MemPlace} (h : DataW.Trod enc Tryz.prog W 0 (fun _ => true) true 22 (.slice a len cap) d p) :
    ∃ l : List Int, l.length = len ∧ len ≤ cap ∧ Reads W W.heap.size 1 a l.length (ints l) ∧ (∀ n ∈ l, I64 n) ∧ (len = 0 ∨ ∃ elems spare, d = .slice elems spare ∧ len ≤ elems.length + spare.length) := by
  obtain ⟨fuel, hf⟩ := h
  rcases open_ints Tryz.underlying22 Tryz.underlying3 cells_int hf with ⟨hcs, hx⟩ | ⟨x, l, c, zs, hcs, _, hl, hm, hz, hx, hcell, hwz⟩
  · simp [Value.cells] at hcs
    obtain ⟨rfl, rfl, rfl⟩ := hcs
    exact ⟨[], rfl, Nat.le_refl _, ⟨rfl, fun h => by simp at h⟩, by simp, .inl rfl⟩
  · simp [Value.cells] at hcs
    obtain ⟨rfl, rfl, rfl⟩ := hcs
    have hz' : zs.length = cap := by simpa using hz
    have hlen : (zs.take len).length = len := by simp; omega
    refine ⟨zs.take len, hlen, hl, ⟨by simp [ints], fun hn => ⟨x, rfl, ?_, fun j u hu => ?_⟩⟩, fun n hn => i64_of_wf (hwz n (List.mem_of_mem_take hn)), .inr ⟨_, _, congrArg Prod.fst hx, ?_⟩⟩
    · have h0 := hcell 0 (by omega)
      have := World.block_lt_of_cell? W _ h0
      simpa [Addr.add] using this
    · unfold ints at hu
      rw [List.getElem?_map] at hu
      cases hj : (zs.take len)[j]? with
      | none => rw [hj] at hu; cases hu
      | some z =>
        rw [hj] at hu
        cases hu
        have h1 : j < len := by
          have := (List.getElem?_eq_some_iff.1 hj).1
          omega
        have h2 := hcell j (by omega)
        rw [h2]
        rw [List.getElem?_take, if_pos h1] at hj
        simp [List.getD_eq_getElem?_getD, hj]
    · simp [lits]
      omega
section
theorem tab_named : Tryz.prog.globalNamed "math/bits.deBruijn64tab" = some 0 := by kernel_rfl
theorem tab_type : (Tryz.prog.globals[0]?).map (·.type) = some 186 := by kernel_rfl
theorem tab_cells : Tryz.prog.cellsOf 186 = 64 := by kernel_rfl
theorem u8_cells : Tryz.prog.cellsOf 5 = 1 := by kernel_rfl
def tabL : List (String × DataW Unit) := [("math/bits.deBruijn64tab", Rows.laid_math_bits_deBruijn64tab)]
theorem tabs_of_laid {W : World} (h : laidMetH Tryz.prog tabL W) : Tabs W W.heap.size := by
  have h' : laidMet Tryz.prog tabL W := h
  have hT := Lib.tabIs_of_head (zs := tzTab.map fun n : Nat => (n : Int)) tab_named tab_type Tryz.underlying186 Tryz.underlying5 u8_cells tab_cells (rest := []) (by exact h')
  have hc : ∀ k v : Nat, tzTab[k]? = some v → W.cell? ⟨0, k, none⟩ = some (.int .u8 (v : Int)) := fun k v hk => by
    have hlt : k < 64 := (List.getElem?_eq_some_iff.1 hk).1
    have := hT.cell tab_named k (by simpa [tzTab] using hlt)
    rw [this]
    simp [List.getD_eq_getElem?_getD, hk]
  exact ⟨by have := World.block_lt_of_cell? W _ (hc 0 0 rfl); simpa using this, hc⟩
theorem door_met (os : Os) (args : Array Value) : laidMetH Tryz.prog tabL ((World.doorLaid Tryz.prog 14 os).forCall (fun _ _ => 0) ⟨#[], args, []⟩).memory :=
  laidMetH_of_parts3 (fuel := 8) (laidMet_of_run' 65 (by kernel_rfl) (by kernel_rfl)) (by kernel_rfl) (by kernel_rfl)
end
end Go.Proofs.YtkefmjhagmacfaaGreatDoor

/- Functions of the program (api.Func), as they lie in memory; plain functions on them. -/
namespace Go.Proofs.YtkefmjhagmacfaaGreatDoor
set_option linter.unusedVariables false
open Go Go.RowKit

structure Tm where
  kind : Int
  a : Int
  t0 : Int
  t1 : Int
deriving DecidableEq
structure RIns where
  op : Int
  dst : Int
  a : Int
  b : Int
  imm : Int
  callee : Int
  aA : Option Addr
  aC : Nat
  args : List Int
  many : Int
structure RBlk where
  iA : Option Addr
  iC : Nat
  ins : List RIns
  term : Tm
structure RFun where
  pA : Option Addr
  pC : Nat
  params : List Int
  bA : Option Addr
  bC : Nat
  blocks : List RBlk
def Tm.cells (t : Tm) : List Value := [.int .i64 t.kind, .int .i64 t.a, .int .i64 t.t0, .int .i64 t.t1]
def RIns.cells (i : RIns) : List Value := [.int .i64 i.op, .int .i64 i.dst, .int .i64 i.a, .int .i64 i.b, .int .i64 i.imm, .int .i64 i.callee, .slice i.aA i.args.length i.aC, .int .i64 i.many]
def RBlk.cells (b : RBlk) : List Value := .slice b.iA b.ins.length b.iC :: b.term.cells
def RFun.cells (f : RFun) : List Value := [.slice f.pA f.params.length f.pC, .slice f.bA f.blocks.length f.bC]
def RFun.val (f : RFun) : Value := .agg f.cells.toArray
def Tm.val (t : Tm) : Value := .agg t.cells.toArray
def RIns.val (i : RIns) : Value := .agg i.cells.toArray
def RBlk.val (b : RBlk) : Value := .agg b.cells.toArray
def RFun.terms (f : RFun) : List Tm := f.blocks.map RBlk.term
theorem RBlk.len (b : RBlk) : b.cells.length = 5 := rfl
theorem RIns.len (i : RIns) : i.cells.length = 8 := rfl
theorem flat_get {α β : Type} {f : α → List β} {s : Nat} (hs : ∀ x, (f x).length = s) : ∀ (l : List α) (k j : Nat) (x : α), l[k]? = some x → j < s → (l.flatMap f)[k * s + j]? = (f x)[j]?
  | [], k, j, x, h, _ => by simp at h
  | y :: l, 0, j, x, h, hj => by
    simp at h
    subst h
    rw [List.flatMap_cons, Nat.zero_mul, Nat.zero_add, List.getElem?_append_left (by rw [hs]; exact hj)]
  | y :: l, k + 1, j, x, h, hj => by
    have ih := flat_get hs l k j x (by simpa using h) hj
    rw [List.flatMap_cons, List.getElem?_append_right (by rw [hs, Nat.add_mul]; omega), hs]
    rw [← ih]
    congr 1
    rw [Nat.add_mul]; omega
theorem flat_len {α β : Type} {f : α → List β} {s : Nat} (hs : ∀ x, (f x).length = s) : ∀ l : List α, (l.flatMap f).length = l.length * s
  | [] => by simp
  | y :: l => by rw [List.flatMap_cons, List.length_append, hs, flat_len hs l, List.length_cons, Nat.add_mul]; omega
/-- All of a function lies below B. -/
structure FunAt (w : World) (B : Nat) (f : RFun) : Prop where
  params : Reads w B 1 f.pA f.params.length (ints f.params)
  blocks : Reads w B 5 f.bA f.blocks.length (f.blocks.flatMap RBlk.cells)
  ins : ∀ b ∈ f.blocks, Reads w B 8 b.iA b.ins.length (b.ins.flatMap RIns.cells)
  args : ∀ b ∈ f.blocks, ∀ i ∈ b.ins, Reads w B 1 i.aA i.args.length (ints i.args)
theorem FunAt.now {w0 w : World} {B : Nat} {f : RFun} {L : List Res} (h : FunAt w0 B f) (hh : Hp w0 B L w) : FunAt w w.heap.size f :=
  ⟨h.params.now hh, h.blocks.now hh, fun b hb => (h.ins b hb).now hh, fun b hb i hi => (h.args b hb i hi).now hh⟩
theorem FunAt.cell {w : World} {B : Nat} {f : RFun} (h : FunAt w B f) {k j : Nat} {b : RBlk} (hk : f.blocks[k]? = some b) (hj : j < 5) : (f.blocks.flatMap RBlk.cells)[k * 5 + j]? = b.cells[j]? := flat_get RBlk.len _ _ _ _ hk hj
/-- Its numbers are numbers, its lists are not endless. -/
structure Fit (f : RFun) : Prop where
  params : ∀ n ∈ f.params, -9223372036854775808 ≤ n ∧ n ≤ 9223372036854775807
  plen : f.params.length < 2 ^ 50
  blen : f.blocks.length < 2 ^ 50
  pcap : f.params.length ≤ f.pC
  bcap : f.blocks.length ≤ f.bC
  ilen : ∀ b ∈ f.blocks, b.ins.length < 2 ^ 50
  icap : ∀ b ∈ f.blocks, b.ins.length ≤ b.iC
  term : ∀ b ∈ f.blocks, ∀ n ∈ [b.term.kind, b.term.a, b.term.t0, b.term.t1], -9223372036854775808 ≤ n ∧ n ≤ 9223372036854775807
  insr : ∀ b ∈ f.blocks, ∀ i ∈ b.ins, ∀ n ∈ [i.op, i.dst, i.a, i.b, i.imm, i.callee, i.many], -9223372036854775808 ≤ n ∧ n ≤ 9223372036854775807
  alen : ∀ b ∈ f.blocks, ∀ i ∈ b.ins, i.args.length < 2 ^ 50
  acap : ∀ b ∈ f.blocks, ∀ i ∈ b.ins, i.args.length ≤ i.aC
  argr : ∀ b ∈ f.blocks, ∀ i ∈ b.ins, ∀ n ∈ i.args, -9223372036854775808 ≤ n ∧ n ≤ 9223372036854775807

/-! ### Ends -/
def varB (n : Int) : Bool := decide (1 ≤ n) && decide (n ≤ 200)
def fitsB (has : Bool) (n : Int) : Bool := bif has then varB n else decide (n = 0)
def noneB (l : List Int) : Bool := l.all fun n => decide (n = 0)
def isTerm (t : Tm) : Bool :=
  bif decide (t.kind = 1) then noneB [t.a, t.t1] else bif decide (t.kind = 2) then varB t.a else bif decide (t.kind = 3) then fitsB (!decide (t.a = 0)) t.a && noneB [t.t0, t.t1] else decide (t.kind = 4) && noneB [t.a, t.t0, t.t1]
def toL (t : Tm) : List Int := bif isTerm t then (bif decide (t.kind = 1) then [t.t0] else bif decide (t.kind = 2) then [t.t0, t.t1] else []) else []
theorem toL_len (t : Tm) : (toL t).length ≤ 2 := by
  unfold toL
  cases isTerm t <;> simp
  cases decide (t.kind = 1) <;> simp
  cases decide (t.kind = 2) <;> simp
theorem toL_mem {t : Tm} {n : Int} (h : n ∈ toL t) : n = t.t0 ∨ n = t.t1 := by
  unfold toL at h
  cases h1 : isTerm t <;> simp [h1] at h
  cases h2 : decide (t.kind = 1) <;> simp [h2] at h
  · cases h3 : decide (t.kind = 2) <;> simp [h3] at h
    exact h
  · exact .inl h

/-! ### Edges -/
structure Ed where
  src : Int
  arm : Int
  to : Int
deriving DecidableEq
def Ed.cells (e : Ed) : List Value := [.int .i64 e.src, .int .i64 e.arm, .int .i64 e.to]
def Ed.val (e : Ed) : Value := .agg e.cells.toArray
def edgesB (b : Nat) (l : List Int) : List Ed := l.zipIdx.map fun x => ⟨(b : Int), (x.2 : Int), x.1⟩
def edgesTo (ts : List Tm) (k : Nat) : List Ed := (ts.take k).zipIdx.flatMap fun x => edgesB x.2 (toL x.1)
def edges (ts : List Tm) : List Ed := edgesTo ts ts.length
theorem edgesTo_zero (ts : List Tm) : edgesTo ts 0 = [] := by simp [edgesTo]
theorem take_snoc_ {α : Type} {l : List α} {k : Nat} {x : α} (h : l[k]? = some x) : l.take (k + 1) = l.take k ++ [x] := by
  obtain ⟨h1, h2⟩ := List.getElem?_eq_some_iff.1 h
  rw [List.take_succ_eq_append_getElem h1, h2]
theorem edgesTo_succ {ts : List Tm} {k : Nat} {t : Tm} (h : ts[k]? = some t) : edgesTo ts (k + 1) = edgesTo ts k ++ edgesB k (toL t) := by
  have hk := (List.getElem?_eq_some_iff.1 h).1
  unfold edgesTo
  rw [take_snoc_ h, List.zipIdx_append, List.flatMap_append]
  congr 1
  have : (ts.take k).length = k := by simp; omega
  simp [this]
theorem edgesTo_pre (ts : List Tm) : ∀ {k m : Nat}, k ≤ m → m ≤ ts.length → ∃ r, edgesTo ts m = edgesTo ts k ++ r := by
  intro k m h hm
  induction m with
  | zero => exact ⟨[], by rw [show k = 0 by omega]; simp⟩
  | succ m ih =>
    by_cases he : k = m + 1
    · exact ⟨[], by rw [he]; simp⟩
    · obtain ⟨r, hr⟩ := ih (by omega) (by omega)
      exact ⟨r ++ edgesB m (toL ts[m]), by rw [edgesTo_succ (List.getElem?_eq_getElem (by omega)), hr]; simp⟩
theorem edgesB_len (b : Nat) (l : List Int) : (edgesB b l).length = l.length := by simp [edgesB]
/-- The edge behind those of the blocks below k, and of k's first arms. -/
theorem edges_get {ts : List Tm} {k j : Nat} {t : Tm} {n : Int} (h : ts[k]? = some t) (hj : (toL t)[j]? = some n) : (edges ts)[(edgesTo ts k).length + j]? = some ⟨(k : Int), (j : Int), n⟩ := by
  have hk := (List.getElem?_eq_some_iff.1 h).1
  have hjl := (List.getElem?_eq_some_iff.1 hj).1
  obtain ⟨r, hr⟩ := edgesTo_pre ts (k := k + 1) (m := ts.length) (by omega) (Nat.le_refl _)
  unfold edges
  rw [hr, edgesTo_succ h, List.append_assoc, List.getElem?_append_right (by omega), Nat.add_sub_cancel_left, List.getElem?_append_left (by rw [edgesB_len]; exact hjl)]
  unfold edgesB
  rw [List.getElem?_map, List.getElem?_zipIdx, hj]
  simp
theorem edgesTo_len_le (ts : List Tm) (k : Nat) : (edgesTo ts k).length ≤ 2 * k := by
  induction k with
  | zero => simp [edgesTo]
  | succ k ih =>
    by_cases h : k < ts.length
    · rw [edgesTo_succ (List.getElem?_eq_getElem h), List.length_append, edgesB_len]
      have := toL_len ts[k]
      omega
    · have : edgesTo ts (k + 1) = edgesTo ts k := by unfold edgesTo; rw [List.take_of_length_le (by omega), List.take_of_length_le (by omega)]
      rw [this]; omega
theorem mem_edges {ts : List Tm} {e : Ed} : e ∈ edges ts ↔ ∃ (k j : Nat) (t : Tm), ts[k]? = some t ∧ (toL t)[j]? = some e.to ∧ e.src = (k : Int) ∧ e.arm = (j : Int) := by
  unfold edges edgesTo edgesB
  simp only [List.take_length, List.mem_flatMap, Prod.exists, List.mem_map, List.mem_zipIdx_iff_getElem?]
  constructor
  · rintro ⟨t, k, hk, n, j, hj, rfl⟩
    exact ⟨k, j, t, hk, hj, rfl, rfl⟩
  · rintro ⟨k, j, t, hk, hj, h1, h2⟩
    refine ⟨t, k, hk, e.to, j, hj, ?_⟩
    cases e
    simp at h1 h2
    simp [h1, h2]
/-- Do all edges go to blocks, and are there blocks, not too many? -/
def closed (ts : List Tm) : Bool := (edges ts).all (fun e => decide (0 ≤ e.to) && decide (e.to < (ts.length : Int))) && decide (0 < ts.length) && decide (ts.length ≤ 200)
def someE (ts : List Tm) (p : Ed → Bool) : List Ed := bif closed ts then (edges ts).filter p else []
def edV (l : List Ed) : List Value := l.flatMap Ed.cells
theorem Ed.len (e : Ed) : e.cells.length = 3 := rfl
end Go.Proofs.YtkefmjhagmacfaaGreatDoor

/- The package ir: ends, where they go; the slices' functions that they call, walked. -/
namespace Go.Proofs.YtkefmjhagmacfaaGreatDoor
set_option linter.unusedVariables false
open Go Go.RowKit
set_option maxRecDepth 100000

section
theorem ir_variable_ct {w : World} {n : Int} : Ct Tryz.prog 111 #[.int .i64 n] w (Is (.bool (varB n))) := by
  refine Ct.mk Tryz.func111 rfl rfl ?_
  refine Cd.seq ?_
  refine Cd.region ?_
  refine Ol.p asb ?_
  refine Ol.nil ?_
  refine Cd.seq ?_
  cases h : decide (1 ≤ n) with
  | true =>
    refine Cd.region ?_
    refine Ol.p mvi ?_
    refine Ol.p gei ?_
    refine Ol.p mvb ?_
    refine Ol.gp h mvi ?_
    refine Ol.gp h lei ?_
    refine Ol.p (pkTb h) ?_
    refine Ol.p asb ?_
    refine Ol.nil ?_
    refine Cd.ret ⟨.bool _, ret1 rfl rfl, [], .nil, ?_, rfl⟩
    unfold varB; rw [h]; rfl
  | false =>
    refine Cd.region ?_
    refine Ol.p mvi ?_
    refine Ol.p gei ?_
    refine Ol.p mvb ?_
    refine Ol.gn h ?_
    refine Ol.gn h ?_
    refine Ol.p (pkFb h) ?_
    refine Ol.p asb ?_
    refine Ol.nil ?_
    refine Cd.ret ⟨.bool _, ret1 rfl rfl, [], .nil, ?_, rfl⟩
    unfold varB; rw [h]; rfl
theorem ir_fits_ct {w : World} {b : Bool} {n : Int} : Ct Tryz.prog 112 #[.bool b, .int .i64 n] w (Is (.bool (fitsB b n))) := by
  refine Ct.mk Tryz.func112 rfl rfl ?_
  refine Cd.seq ?_
  refine Cd.region ?_
  refine Ol.p asb ?_
  refine Ol.nil ?_
  refine Cd.seq ?_
  refine Cd.seq ?_
  refine Cd.region ?_
  refine Ol.p mvb ?_
  refine Ol.nil ?_
  refine Cd.cond rfl (fun h => ?_) (fun h => ?_)
  · subst h
    refine Cd.seq ?_
    refine Cd.region ?_
    refine Ol.p mvi ?_
    refine Ol.s (cl en_ir_variable (fun M w' hh => ir_variable_ct)) ?_
    refine Ol.p asb ?_
    refine Ol.nil ?_
    refine Cd.ret ⟨.bool _, ret1 rfl rfl, [], .nil, rfl, rfl⟩
  · subst h
    refine Cd.skip ?_
    refine Cd.seq ?_
    refine Cd.region ?_
    refine Ol.p mvi ?_
    refine Ol.p eqi ?_
    refine Ol.p asb ?_
    refine Ol.nil ?_
    refine Cd.ret ⟨.bool _, ret1 rfl rfl, [], .nil, rfl, rfl⟩
end

/-- The place of the first one that p takes. -/
def indexI {α : Type} (p : α → Bool) (l : List α) : Int := match l.findIdx? p with
  | some i => (i : Int)
  | none => -1
theorem indexI_at {α : Type} {p : α → Bool} {l : List α} {k : Nat} {x : α} (hx : l[k]? = some x) (hp : p x = true) (hb : ∀ i y, i < k → l[i]? = some y → p y = false) : indexI p l = (k : Int) := by
  have hk := (List.getElem?_eq_some_iff.1 hx).1
  have : l.findIdx? p = some k := by
    rw [List.findIdx?_eq_some_iff_getElem]
    refine ⟨hk, ?_, ?_⟩
    · rw [(List.getElem?_eq_some_iff.1 hx).2]; exact hp
    · intro j hj
      rw [hb j l[j] hj (List.getElem?_eq_getElem (by omega))]; simp
  unfold indexI; rw [this]
theorem indexI_none {α : Type} {p : α → Bool} {l : List α} (hb : ∀ i y, i < l.length → l[i]? = some y → p y = false) : indexI p l = -1 := by
  have : l.findIdx? p = none := by
    rw [List.findIdx?_eq_none_iff]
    intro x hx
    obtain ⟨i, hi, rfl⟩ := List.getElem_of_mem hx
    exact hb i _ hi (List.getElem?_eq_getElem hi)
  unfold indexI; rw [this]
theorem indexI_ge {α : Type} (p : α → Bool) (l : List α) : decide ((0 : Int) ≤ indexI p l) = l.any p := by
  rw [Bool.eq_iff_iff, decide_eq_true_iff]
  unfold indexI
  cases h : l.findIdx? p with
  | none =>
    rw [List.findIdx?_eq_none_iff] at h
    constructor
    · intro h0; simp at h0
    · intro h0
      rw [List.any_eq_true] at h0
      obtain ⟨x, hx, hp⟩ := h0
      rw [h x hx] at hp; cases hp
  | some i =>
    rw [List.findIdx?_eq_some_iff_getElem] at h
    obtain ⟨hi, hp, _⟩ := h
    constructor
    · intro _
      rw [List.any_eq_true]
      exact ⟨_, List.getElem_mem hi, hp⟩
    · intro _; show (0 : Int) ≤ (i : Int); omega
/-- A function value that tells whether something is so of numbers. -/
def TellsI (P : Program) (w : World) (g : FuncId) (fst cap : Array Value) (l : List Int) (p : Int → Bool) : Prop := Ent P g ∧ ∀ n ∈ l, ∀ w', Below w.heap.size w w' → Ct P g (fst ++ #[.int .i64 n] ++ cap) w' (Is (.bool (p n)))
section
theorem slices_IndexFunc_L_int_int_ct {w : World} {A : Option Addr} {c : Nat} {l : List Int} {g : FuncId} {fst cap : Array Value} {p : Int → Bool} (hl : Reads w w.heap.size 1 A l.length (ints l)) (hb : l.length < 2 ^ 62) (hf : TellsI Tryz.prog w g fst cap l p) :
    Ct Tryz.prog 142 #[.slice A l.length c, .func (.func g) fst cap] w (Is (.int .i64 (indexI p l))) := by
  refine Ct.mk Tryz.func142 rfl rfl ?_
  refine Cd.seq ?_
  refine Cd.region ?_
  refine Ol.p asi ?_
  refine Ol.nil ?_
  refine Cd.seq ?_
  refine Cd.seq ?_
  refine Cd.region ?_
  refine Ol.p mvs ?_
  refine Ol.p (lens sl_L_int) ?_
  refine Ol.p mvi ?_
  refine Ol.nil ?_
  refine Cd.block ?_
  refine Cd.loop (fun m σ L => ∃ k, m = l.length - k ∧ k ≤ l.length ∧ Has σ [(0, .slice A l.length c), (1, .func (.func g) fst cap), (7, .int .i64 l.length), (8, .int .i64 k)] ∧ L = [] ∧ ∀ i y, i < k → l[i]? = some y → p y = false) (n := l.length) ⟨0, rfl, Nat.zero_le _, ⟨rfl, rfl, rfl, rfl, trivial⟩, rfl, fun i y h => by omega⟩ ?_
  rintro _ σ L ⟨k, rfl, hk, hs, rfl, hno⟩
  refine Cd.has hs ?_
  refine Cd.seq ?_
  refine Cd.region ?_
  refine Ol.p lsi ?_
  refine Ol.nil ?_
  refine Cd.seq ?_
  refine Cd.cond rfl (fun h => ?_) (fun h => ?_)
  · have hlt : k < l.length := by simpa using h
    refine Cd.skip ?_
    refine Cd.seq ?_
    refine Cd.block ?_
    refine Cd.seq ?_
    refine Cd.region ?_
    refine Ol.p mvi ?_
    refine Ol.p asi ?_
    refine Ol.nil ?_
    refine Cd.seq ?_
    refine Cd.region ?_
    refine Ol.p mvf ?_
    refine Ol.p mvs ?_
    refine Ol.p mvi ?_
    refine Ol.p (ixn1 sl_L_int (Som.slc hl (by omega))) ?_
    refine Ol.p (ld one_int (Rd.slc hl (ints_get hlt))) ?_
    refine Ol.x (sp_callv hf.1 (fun M w' hh => hf.2 _ (List.getElem_mem hlt) w' hh.below)) ?_
    rintro _ _ ⟨_, rfl, rfl, rfl⟩
    refine Ol.nil ?_
    refine Cd.cond rfl (fun h2 => ?_) (fun h2 => ?_)
    · refine Cd.seq ?_
      refine Cd.region ?_
      refine Ol.p mvi ?_
      refine Ol.p asi ?_
      refine Ol.nil ?_
      refine Cd.ret ⟨_, ret1 rfl rfl, [], .nil, ?_, rfl⟩
      rw [indexI_at (List.getElem?_eq_getElem hlt) h2 hno]
      rfl
    · refine Cd.skip ?_
      refine Cd.region ?_
      refine Ol.p addi ?_
      refine Ol.p mvi ?_
      refine Ol.nil ?_
      refine ⟨l.length - (k + 1), by omega, k + 1, rfl, by omega, ⟨rfl, rfl, rfl, rfl, trivial⟩, rfl, ?_⟩
      intro i y hi hy
      rcases Nat.lt_or_ge i k with h3 | h3
      · exact hno i y h3 hy
      · have : i = k := by omega
        subst this
        rw [List.getElem?_eq_getElem hlt] at hy
        cases hy
        exact h2
  · have hge : k = l.length := by
      have : ¬ (k : Int) < l.length := by simpa using h
      omega
    subst hge
    refine Cd.exit (id := 0) ?_
    refine Cd.seq ?_
    refine Cd.region ?_
    refine Ol.p asi ?_
    refine Ol.nil ?_
    refine Cd.ret ⟨_, ret1 rfl rfl, [], .nil, ?_, rfl⟩
    rw [indexI_none hno]
    rfl
theorem slices_ContainsFunc_L_int_int_ct {w : World} {A : Option Addr} {c : Nat} {l : List Int} {g : FuncId} {fst cap : Array Value} {p : Int → Bool} (hl : Reads w w.heap.size 1 A l.length (ints l)) (hb : l.length < 2 ^ 62) (hf : TellsI Tryz.prog w g fst cap l p) :
    Ct Tryz.prog 137 #[.slice A l.length c, .func (.func g) fst cap] w (Is (.bool (l.any p))) := by
  refine Ct.mk Tryz.func137 rfl rfl ?_
  refine Cd.seq ?_
  refine Cd.region ?_
  refine Ol.p asb ?_
  refine Ol.nil ?_
  refine Cd.seq ?_
  refine Cd.region ?_
  refine Ol.p mvs ?_
  refine Ol.p mvf ?_
  refine Ol.s (cl en_slices_IndexFunc_L_int_int (fun M w' hh => slices_IndexFunc_L_int_int_ct (hl.now hh) hb ⟨hf.1, fun n hn w2 h2 => hf.2 n hn w2 (hh.below.trans (h2.mono hh.le))⟩)) ?_
  refine Ol.p gei ?_
  refine Ol.p asb ?_
  refine Ol.nil ?_
  refine Cd.ret ⟨.bool _, ret1 rfl rfl, [], .nil, ?_, rfl⟩
  rw [indexI_ge]
end
theorem Tm.tos (t : Tm) : ∀ (j : Nat) (u : Value), (ints [t.t0, t.t1])[j]? = some u → t.cells.toArray[2 + j]? = some u
  | 0, _, h => h
  | 1, _, h => h
  | _ + 2, _, h => by simp [ints] at h
section
theorem ir_none_1_ct {w : World} {n : Int} : Ct Tryz.prog 138 #[.int .i64 n] w (Is (.bool (!decide (n = 0)))) := by
  refine Ct.mk Tryz.func138 rfl rfl ?_
  refine Cd.seq ?_
  refine Cd.region ?_
  refine Ol.p asb ?_
  refine Ol.nil ?_
  refine Cd.seq ?_
  refine Cd.region ?_
  refine Ol.p mvi ?_
  refine Ol.p nei ?_
  refine Ol.p asb ?_
  refine Ol.nil ?_
  refine Cd.ret ⟨.bool _, ret1 rfl rfl, [], .nil, rfl, rfl⟩
theorem ir_none_ct {w : World} {A : Option Addr} {c : Nat} {l : List Int} (hl : Reads w w.heap.size 1 A l.length (ints l)) (hb : l.length < 2 ^ 62) : Ct Tryz.prog 110 #[.slice A l.length c] w (Is (.bool (noneB l))) := by
  refine Ct.mk Tryz.func110 rfl rfl ?_
  refine Cd.seq ?_
  refine Cd.region ?_
  refine Ol.p asb ?_
  refine Ol.nil ?_
  refine Cd.seq ?_
  refine Cd.region ?_
  refine Ol.p mvs ?_
  refine Ol.s (cl en_slices_ContainsFunc_L_int_int (fun M w' hh => slices_ContainsFunc_L_int_int_ct (g := 138) (fst := #[]) (cap := #[]) (p := fun n => !decide (n = 0)) (hl.now hh) hb ⟨en_ir_none_1, fun n hn w2 h2 => ir_none_1_ct⟩)) ?_
  refine Ol.p noti ?_
  refine Ol.p asb ?_
  refine Ol.nil ?_
  refine Cd.ret ⟨.bool _, ret1 rfl rfl, [], .nil, ?_, rfl⟩
  unfold noneB
  rw [List.not_any_eq_all_not]
  simp
set_option maxHeartbeats 1000000 in
theorem ir_IsTerm_ct {w : World} {t : Tm} : Ct Tryz.prog 83 #[t.val] w (Is (.bool (isTerm t))) := by
  refine Ct.mk Tryz.func83 rfl rfl ?_
  refine Cd.seq ?_
  refine Cd.region ?_
  refine Ol.x bxg ?_
  rintro _ _ ⟨g1, rfl, rfl⟩
  refine Ol.p asb ?_
  refine Ol.nil ?_
  refine Cd.seq ?_
  refine Cd.seq ?_
  refine Cd.region ?_
  refine Ol.p (fdl fd_api_Term_0) ?_
  refine Ol.p (ld one_api_TermKind (Rd.blk (i := 0) rfl rfl)) ?_
  refine Ol.nil ?_
  refine Cd.block ?_
  refine Cd.seq ?_
  refine Cd.region ?_
  refine Ol.p eqi ?_
  refine Ol.p asb ?_
  refine Ol.nil ?_
  refine Cd.cond rfl (fun h1 => ?_) (fun h1 => ?_)
  · refine Cd.seq ?_
    refine Cd.region ?_
    refine Ol.p (fdl fd_api_Term_1) ?_
    refine Ol.p (ld one_int (Rd.blk (i := 0) rfl rfl)) ?_
    refine Ol.p (fdl fd_api_Term_2) ?_
    refine Ol.p (ixl (ix := 1) ar_A2_int) ?_
    refine Ol.p (ld one_int (Rd.blk (i := 0) rfl rfl)) ?_
    refine Ol.x (bsv [.int .i64 t.a, .int .i64 t.t1] sl_L_int zr_int (by simp [Value.cells])) ?_
    rintro _ _ ⟨g12, rfl, rfl⟩
    refine Ol.s (cl en_ir_none (fun M w' hh => ir_none_ct (l := [t.a, t.t1]) (Reads.row hh (i := 0) rfl) (by simp))) ?_
    refine Ol.p asb ?_
    refine Ol.nil ?_
    refine Cd.ret ⟨.bool _, ret1 rfl rfl, [], .nil, ?_, rfl⟩
    unfold isTerm; rw [h1]; rfl
  · refine Cd.seq ?_
    refine Cd.region ?_
    refine Ol.p eqi ?_
    refine Ol.p asb ?_
    refine Ol.nil ?_
    refine Cd.cond rfl (fun h2 => ?_) (fun h2 => ?_)
    · refine Cd.seq ?_
      refine Cd.region ?_
      refine Ol.p (fdl fd_api_Term_1) ?_
      refine Ol.p (ld one_int (Rd.blk (i := 0) rfl rfl)) ?_
      refine Ol.s (cl en_ir_variable (fun M w' hh => ir_variable_ct)) ?_
      refine Ol.p asb ?_
      refine Ol.nil ?_
      refine Cd.ret ⟨.bool _, ret1 rfl rfl, [], .nil, ?_, rfl⟩
      unfold isTerm; rw [h1, h2]; rfl
    · refine Cd.seq ?_
      refine Cd.region ?_
      refine Ol.p eqi ?_
      refine Ol.p asb ?_
      refine Ol.nil ?_
      refine Cd.cond rfl (fun h3 => ?_) (fun h3 => ?_)
      · refine Cd.seq ?_
        cases h4 : fitsB (!decide (t.a = 0)) t.a with
        | true =>
          refine Cd.region ?_
          refine Ol.p (fdl fd_api_Term_1) ?_
          refine Ol.p (ld one_int (Rd.blk (i := 0) rfl rfl)) ?_
          refine Ol.p nei ?_
          refine Ol.p (fdl fd_api_Term_1) ?_
          refine Ol.p (ld one_int (Rd.blk (i := 0) rfl rfl)) ?_
          refine Ol.s (cl en_ir_fits (fun M w' hh => ir_fits_ct)) ?_
          refine Ol.p mvb ?_
          refine Ol.gp h4 (fdl fd_api_Term_2) ?_
          refine Ol.gp h4 (sla ar_A2_int) ?_
          refine Ol.gs h4 (cl en_ir_none (fun M w' hh => ir_none_ct (l := [t.t0, t.t1]) (Reads.blk hh (i := 0) rfl rfl t.tos) (by simp))) ?_
          refine Ol.p (pkTb h4) ?_
          refine Ol.p asb ?_
          refine Ol.nil ?_
          refine Cd.ret ⟨.bool _, ret1 rfl rfl, [], .nil, ?_, rfl⟩
          unfold isTerm; rw [h1, h2, h3, h4]; rfl
        | false =>
          refine Cd.region ?_
          refine Ol.p (fdl fd_api_Term_1) ?_
          refine Ol.p (ld one_int (Rd.blk (i := 0) rfl rfl)) ?_
          refine Ol.p nei ?_
          refine Ol.p (fdl fd_api_Term_1) ?_
          refine Ol.p (ld one_int (Rd.blk (i := 0) rfl rfl)) ?_
          refine Ol.s (cl en_ir_fits (fun M w' hh => ir_fits_ct)) ?_
          refine Ol.p mvb ?_
          refine Ol.gn h4 ?_
          refine Ol.gn h4 ?_
          refine Ol.gn h4 ?_
          refine Ol.p (pkFb h4) ?_
          refine Ol.p asb ?_
          refine Ol.nil ?_
          refine Cd.ret ⟨.bool _, ret1 rfl rfl, [], .nil, ?_, rfl⟩
          unfold isTerm; rw [h1, h2, h3, h4]; rfl
      · refine Cd.skip ?_
        refine Cd.seq ?_
        cases h4 : decide (t.kind = 4) with
        | true =>
          refine Cd.region ?_
          refine Ol.p (fdl fd_api_Term_0) ?_
          refine Ol.p (ld one_api_TermKind (Rd.blk (i := 0) rfl rfl)) ?_
          refine Ol.p eqi ?_
          refine Ol.p mvb ?_
          refine Ol.gp h4 (fdl fd_api_Term_1) ?_
          refine Ol.gp h4 (ld one_int (Rd.blk (i := 0) rfl rfl)) ?_
          refine Ol.gp h4 (fdl fd_api_Term_2) ?_
          refine Ol.gp h4 (ixl (ix := 0) ar_A2_int) ?_
          refine Ol.gp h4 (ld one_int (Rd.blk (i := 0) rfl rfl)) ?_
          refine Ol.gp h4 (fdl fd_api_Term_2) ?_
          refine Ol.gp h4 (ixl (ix := 1) ar_A2_int) ?_
          refine Ol.gp h4 (ld one_int (Rd.blk (i := 0) rfl rfl)) ?_
          refine Ol.gx h4 (bsv [.int .i64 t.a, .int .i64 t.t0, .int .i64 t.t1] sl_L_int zr_int (by simp [Value.cells])) ?_
          rintro _ _ ⟨g44, rfl, rfl⟩
          refine Ol.gs h4 (cl en_ir_none (fun M w' hh => ir_none_ct (l := [t.a, t.t0, t.t1]) (Reads.row hh (i := 0) rfl) (by simp))) ?_
          refine Ol.p (pkTb h4) ?_
          refine Ol.p asb ?_
          refine Ol.nil ?_
          refine Cd.ret ⟨.bool _, ret1 rfl rfl, [], .nil, ?_, rfl⟩
          unfold isTerm; rw [h1, h2, h3, h4]; rfl
        | false =>
          refine Cd.region ?_
          refine Ol.p (fdl fd_api_Term_0) ?_
          refine Ol.p (ld one_api_TermKind (Rd.blk (i := 0) rfl rfl)) ?_
          refine Ol.p eqi ?_
          refine Ol.p mvb ?_
          refine Ol.gn h4 ?_
          refine Ol.gn h4 ?_
          refine Ol.gn h4 ?_
          refine Ol.gn h4 ?_
          refine Ol.gn h4 ?_
          refine Ol.gn h4 ?_
          refine Ol.gn h4 ?_
          refine Ol.gn h4 ?_
          refine Ol.gn h4 ?_
          refine Ol.gn h4 ?_
          refine Ol.p (pkFb h4) ?_
          refine Ol.p asb ?_
          refine Ol.nil ?_
          refine Cd.ret ⟨.bool _, ret1 rfl rfl, [], .nil, ?_, rfl⟩
          unfold isTerm; rw [h1, h2, h3, h4]; rfl
end
section
theorem slices_Clone_L_int_int_ct {w : World} {A : Option Addr} {c n : Nat} {xs : List Value} (hl : Reads w w.heap.size 1 A n xs) (h1 : ∀ u ∈ xs, u.oneCell' = true) (hb : n < 2 ^ 43) : Ct Tryz.prog 84 #[.slice A n c] w (NewL 3 1 n xs) := by
  refine Ct.mk Tryz.func84 rfl rfl ?_
  refine Cd.seq ?_
  refine Cd.region ?_
  refine Ol.p ass ?_
  refine Ol.nil ?_
  refine Cd.seq ?_
  refine Cd.seq ?_
  refine Cd.region ?_
  refine Ol.p mvs ?_
  refine Ol.p (esn sl_L_int) ?_
  refine Ol.nil ?_
  refine Cd.cond rfl (fun h => ?_) (fun h => ?_)
  · refine Cd.seq ?_
    refine Cd.region ?_
    refine Ol.p ass ?_
    refine Ol.nil ?_
    refine Cd.nr 3 1 ?_
    have h0 : n = 0 := by
      rcases Nat.eq_zero_or_pos n with h0 | h0
      · exact h0
      · obtain ⟨a, rfl, _⟩ := hl.2 h0; cases h
    subst h0
    have hx : xs = [] := List.eq_nil_of_length_eq_zero (by simpa using hl.1)
    subst hx
    refine Cd.ret ⟨.slice none 0 0, ret1 rfl rfl, _, .all, none, 0, rfl, rfl⟩
  · refine Cd.skip ?_
    refine Cd.seq ?_
    refine Cd.region ?_
    refine Ol.x (bsv [] sl_L_int zr_int (by simp)) ?_
    rintro _ _ ⟨g5, rfl, rfl⟩
    refine Ol.p mvs ?_
    refine Ol.x (apn (i := 0) (n := 0) (xs := []) sl_L_int zr_int rfl (by decide) rfl (Src.slc hl) h1 (by unfold maxLen; omega) (by omega)) ?_
    rintro _ _ ⟨A', c', rfl, rfl⟩
    refine Ol.p ass ?_
    refine Ol.nil ?_
    rw [Nat.zero_add]
    refine Cd.ret ⟨.slice A' n c', ret1 rfl rfl, _, .all, A', c', rfl, rfl⟩
end
section
set_option maxHeartbeats 1000000 in
theorem ir_To_ct {w : World} {t : Tm} : Ct Tryz.prog 60 #[t.val] w (NewL 3 1 (toL t).length (ints (toL t))) := by
  refine Ct.mk Tryz.func60 rfl rfl ?_
  refine Cd.seq ?_
  refine Cd.region ?_
  refine Ol.x bxg ?_
  rintro _ _ ⟨g1, rfl, rfl⟩
  refine Ol.p ass ?_
  refine Ol.nil ?_
  refine Cd.seq ?_
  refine Cd.block ?_
  refine Cd.seq ?_
  refine Cd.region ?_
  refine Ol.p (ldw ag_api_Term (i := 0) rfl rfl) ?_
  refine Ol.s (cl en_ir_IsTerm (fun M w' hh => ir_IsTerm_ct (t := t))) ?_
  refine Ol.p noti ?_
  refine Ol.p asb ?_
  refine Ol.nil ?_
  refine Cd.cond rfl (fun h1 => ?_) (fun h1 => ?_)
  · have e : toL t = [] := by unfold toL; cases h : isTerm t <;> simp [h] at h1 ⊢
    rw [e]
    refine Cd.skip ?_
    refine Cd.seq ?_
    refine Cd.region ?_
    refine Ol.p ass ?_
    refine Ol.nil ?_
    refine Cd.nr 3 1 ?_
    refine Cd.ret ⟨.slice none 0 0, ret1 rfl rfl, _, .sub (.cons_cons _ (.cons _ .slnil)), none, 0, rfl, rfl⟩
  · have e1 : isTerm t = true := by simpa using h1
    refine Cd.seq ?_
    refine Cd.region ?_
    refine Ol.p (fdl fd_api_Term_0) ?_
    refine Ol.p (ld one_api_TermKind (Rd.blk (i := 0) rfl rfl)) ?_
    refine Ol.p eqi ?_
    refine Ol.p asb ?_
    refine Ol.nil ?_
    refine Cd.cond rfl (fun h2 => ?_) (fun h2 => ?_)
    · have e : toL t = [t.t0] := by unfold toL; rw [e1, h2]; rfl
      rw [e]
      refine Cd.seq ?_
      refine Cd.region ?_
      refine Ol.p (fdl fd_api_Term_2) ?_
      refine Ol.p (ixl (ix := 0) ar_A2_int) ?_
      refine Ol.p (ld one_int (Rd.blk (i := 0) rfl rfl)) ?_
      refine Ol.x (bsv [.int .i64 t.t0] sl_L_int zr_int (by simp [Value.cells])) ?_
      rintro _ _ ⟨g14, rfl, rfl⟩
      refine Ol.p ass ?_
      refine Ol.nil ?_
      refine Cd.ret ⟨.slice _ _ _, ret1 rfl rfl, _, .sub (.cons_cons _ (.cons _ .slnil)), _, _, rfl, rfl⟩
    · refine Cd.seq ?_
      refine Cd.region ?_
      refine Ol.p (fdl fd_api_Term_0) ?_
      refine Ol.p (ld one_api_TermKind (Rd.blk (i := 0) rfl rfl)) ?_
      refine Ol.p eqi ?_
      refine Ol.p asb ?_
      refine Ol.nil ?_
      refine Cd.cond rfl (fun h3 => ?_) (fun h3 => ?_)
      · have e : toL t = [t.t0, t.t1] := by unfold toL; rw [e1, h2, h3]; rfl
        rw [e]
        refine Cd.seq ?_
        refine Cd.region ?_
        refine Ol.p (fdl fd_api_Term_2) ?_
        refine Ol.p (sla ar_A2_int) ?_
        refine Ol.x (sp_call en_slices_Clone_L_int_int (fun M w' hh => slices_Clone_L_int_int_ct (xs := ints [t.t0, t.t1]) (Reads.blk hh (i := 0) rfl rfl t.tos) (ints_one _) (by simp [ints]))) ?_
        rintro _ _ ⟨_, rfl, A, c, rfl, rfl⟩
        refine Ol.p ass ?_
        refine Ol.nil ?_
        refine Cd.ret ⟨.slice _ _ _, ret1 rfl rfl, _, .sub (.cons_cons _ (.cons _ .slnil)), _, _, rfl, rfl⟩
      · have e : toL t = [] := by unfold toL; rw [e1, h2, h3]; rfl
        rw [e]
        refine Cd.skip ?_
        refine Cd.seq ?_
        refine Cd.region ?_
        refine Ol.p ass ?_
        refine Ol.nil ?_
        refine Cd.nr 3 1 ?_
        refine Cd.ret ⟨.slice none 0 0, ret1 rfl rfl, _, .sub (.cons_cons _ (.cons _ .slnil)), none, 0, rfl, rfl⟩
end
end Go.Proofs.YtkefmjhagmacfaaGreatDoor

/- Instructions and whole functions: plain definitions and laws (no program in sight). -/
namespace Go.Proofs.YtkefmjhagmacfaaGreatDoor
set_option linter.unusedVariables false
open Go Go.RowKit

/-! ### Instructions -/
structure Shp where
  dst : Bool
  a : Bool
  b : Bool
  imm : Bool
  call : Bool
def shp (o : Int) : Shp × Bool :=
  bif decide (o = 13) then (⟨false, false, false, false, true⟩, true) else bif decide (o = 1) then (⟨true, false, false, true, false⟩, true) else
  bif decide (o = 12) then (⟨false, true, true, true, false⟩, true) else bif decide (o = 11) then (⟨true, true, false, true, false⟩, true) else
  bif decide (o = 14) then (⟨true, true, false, false, false⟩, true) else (⟨true, true, true, false, false⟩, decide (2 ≤ o) && decide (o ≤ 10))
def Shp.cells (s : Shp) : List Value := [.bool s.dst, .bool s.a, .bool s.b, .bool s.imm, .bool s.call]
def Shp.val (s : Shp) : Value := .agg s.cells.toArray
def isIns (i : RIns) : Bool :=
  bif !(shp i.op).2 || !decide (i.many = 0) then false else
  bif (shp i.op).1.call then noneB [i.a, i.b, i.imm] && (decide (0 ≤ i.callee) && decide (i.callee ≤ 99)) && fitsB (!decide (i.dst = 0)) i.dst && decide (i.args.length ≤ 8) && i.args.all varB else
  bif (!(shp i.op).1.imm && !decide (i.imm = 0)) || decide (i.imm < -1099511627776) || decide (1099511627776 < i.imm) then false else
  decide (i.callee = 0) && decide (i.args.length = 0) && fitsB (shp i.op).1.dst i.dst && fitsB (shp i.op).1.a i.a && fitsB (shp i.op).1.b i.b
def readsL (i : RIns) : List Int := bif isIns i then [i.a, i.b].filter (fun n => !decide (n = 0)) ++ i.args else []
def defI (i : RIns) : Int := bif isIns i then i.dst else 0
def needsL (t : Tm) : List Int := bif isTerm t && !decide (t.a = 0) then [t.a] else []
/-! ### Sets of variables: arrays of 201 truths -/
abbrev VS := Nat → Bool
def encV (f : VS) : Array Value := ((List.range 201).map fun i => Value.bool (f i)).toArray
def putV (f : VS) (k : Nat) (b : Bool) : VS := fun i => if i = k then b else f i
def hasV (f : VS) (l : List Int) : Bool := l.all fun v => f v.toNat
def putsV (f : VS) (l : List Int) (b : Bool) : VS := l.foldl (fun f v => putV f v.toNat b) f

/-! ### Whole functions -/
def longF (f : RFun) : Bool := decide (f.blocks.length = 0) || decide (200 < f.blocks.length) || decide (8 < f.params.length) || f.blocks.any fun b => decide (64 < b.ins.length)
def wholeB (b : RBlk) : Bool := isTerm b.term && b.ins.all isIns
def wholeF (f : RFun) : Bool := f.params.all varB && decide f.params.Nodup && f.blocks.all wholeB
/-- Is v read from here on, ahead of being defined? -/
def exposed : List RIns → Tm → Int → Bool
  | [], t, v => (needsL t).contains v
  | i :: l, t, v => (readsL i).contains v || (!decide (defI i = v) && exposed l t v)
def defines (l : List RIns) (v : Int) : Bool := l.any fun i => decide (defI i = v)
end Go.Proofs.YtkefmjhagmacfaaGreatDoor

/- Further rules: parts of tuples, conversions with known results, copy, appending to what is new. Over any program. -/
namespace Go.Proofs.YtkefmjhagmacfaaGreatDoor
set_option linter.unusedVariables false
open Go Go.RowKit

theorem extv {P : Program} {w0 : World} {B : Nat} {σ : Env} {L : List Res} {d : Option Nat} {ty : TypeId} {pos : String} {af : Array Edge} {gd : Option (Nat × Bool)} {x : Operand} {v : Value} {vs : Array Value} {i : Nat} (hx : ev σ x = .tuple vs := by exact rfl) (hv : vs[i]? = some v := by exact rfl) : Sd P w0 B ⟨d, .extract x i, ty, pos, af, gd⟩ σ L (v) := exti hv hx
theorem Grow.adds {P : Program} {w0 : World} {B : Nat} {σ : Env} {r : Res} {L : List Res} {o : Oper} {e s n : Nat} {xs : List Value} (h : Sp P w0 B o σ (r :: L) (Grow 0 e s n xs (r :: L))) : Sp P w0 B o σ (r :: L) (Adds (NewL e s n xs) L) := fun M w hh =>
  Goes.mono (h M w hh) fun v w' ⟨L', h1, A, c, h2, h3⟩ => ⟨L', h1, [row (.slice A n c) e s n xs], h3, A, c, h2, rfl⟩
theorem ap0 {P : Program} {w0 : World} {B : Nat} {σ : Env} {L : List Res} {d : Option Nat} {ty T : TypeId} {pos : String} {af : Array Edge} {gd : Option (Nat × Bool)} {x y : Operand} {e s b c m c2 : Nat} {A A2 : Option Addr} {ys : List Value} {zv : Value} (hT : SlT P T e s b) (hz : ZrT P e zv) (hzs : zv.cells.size = s) (hs0 : 0 < s) (hsrc : Src w0 B (row (.slice A 0 c) e s 0 [] :: L) A2 m s ys)
    (h1 : ∀ u ∈ ys, u.oneCell' = true) (hml : m ≤ maxLen) (hby : m * b ≤ 140737488355328) (hx : ev σ x = .slice A 0 c := by exact rfl) (hy : ev σ y = .slice A2 m c2 := by exact rfl) :
    Sp P w0 B ⟨d, .call { callee := .builtin .append, args := #[x, y], argTypes := #[T, T] }, ty, pos, af, gd⟩ σ (row (.slice A 0 c) e s 0 [] :: L) (Adds (NewL e s m ys) L) := by
  have := Grow.adds (apn (d := d) (ty := ty) (pos := pos) (af := af) (gd := gd) (i := 0) (n := 0) (m := m) (L := row (.slice A 0 c) e s 0 [] :: L) hT hz hzs hs0 rfl hsrc h1 (by omega) (by rw [Nat.zero_add]; exact hby) hx hy)
  rw [Nat.zero_add, List.nil_append] at this
  exact this
/-- One that was there has been turned. -/
def Trn (v : Value) (r : Res) : Value → List Res → Prop := fun v' R => v' = v ∧ R = [r]
end Go.Proofs.YtkefmjhagmacfaaGreatDoor

/- The package ir: instructions, what they read and define; ends, what they need: walked. -/
namespace Go.Proofs.YtkefmjhagmacfaaGreatDoor
set_option linter.unusedVariables false
open Go Go.RowKit
set_option maxRecDepth 100000

/-- An instruction that can be read. -/
structure InsAt (w : World) (i : RIns) : Prop where
  args : Reads w w.heap.size 1 i.aA i.args.length (ints i.args)
  len : i.args.length < 2 ^ 50
  callee : -9223372036854775808 ≤ i.callee ∧ i.callee ≤ 9223372036854775807
end Go.Proofs.YtkefmjhagmacfaaGreatDoor

/- The package ir: what instructions read and define, what ends need; sets: walked. -/
namespace Go.Proofs.YtkefmjhagmacfaaGreatDoor
set_option linter.unusedVariables false
open Go Go.RowKit
set_option maxRecDepth 100000

theorem RIns.one (i : RIns) : ∀ u ∈ i.cells, u.oneCell' = true := by
  intro u hu
  unfold RIns.cells at hu
  simp only [List.mem_cons, List.not_mem_nil, or_false] at hu
  rcases hu with rfl | rfl | rfl | rfl | rfl | rfl | rfl | rfl <;> rfl
/-- A block that can be read. -/
structure BlkAt (w : World) (b : RBlk) : Prop where
  ins : Reads w w.heap.size 8 b.iA b.ins.length (b.ins.flatMap RIns.cells)
  all : ∀ i ∈ b.ins, InsAt w i
  len : b.ins.length < 2 ^ 50
theorem ins_cell {l : List RIns} {k j : Nat} {i : RIns} {u : Value} (hk : l[k]? = some i) (hu : i.cells[j]? = some u) : (l.flatMap RIns.cells)[k * 8 + j]? = some u := by
  rw [flat_get RIns.len _ _ _ _ hk (by have := (List.getElem?_eq_some_iff.1 hu).1; rw [RIns.len] at this; exact this)]; exact hu
/-- What the first k of its two parts read. -/
def abTo (i : RIns) (k : Nat) : List Int := ([i.a, i.b].take k).filter fun n => !decide (n = 0)
end Go.Proofs.YtkefmjhagmacfaaGreatDoor

/- The document's answer of layer 03: instructions and ends, walked. -/
namespace Go.Proofs.YtkefmjhagmacfaaGreatDoor
set_option linter.unusedVariables false
set_option linter.unusedSimpArgs false
open Go Go.RowKit
set_option maxRecDepth 100000

section
variable {P : Program} {w0 : World} {B : Nat} {σ : Env} {L : List Res} {d : Option Nat} {ty T : TypeId} {pos : String} {af : Array Edge} {gd : Option (Nat × Bool)} {x y z : Operand} {v : Value}
end
/-- Which parts an Op has, as letters. -/
def hasS (o : Int) : List UInt8 := if o = 1 then [100, 105] else if 2 ≤ o ∧ o ≤ 10 then [100, 97, 98] else if o = 11 then [100, 97, 105] else if o = 12 then [97, 98, 105] else if o = 13 then [99] else if o = 14 then [100, 97] else []
def strB (l : List UInt8) : ByteArray := ⟨l.toArray⟩
def partB (l : List UInt8) (c : UInt8) (n : Int) : Bool := bif l.contains c then varB n else decide (n = 0)

section
theorem ref03_Var_ct {w : World} {n : Int} : Ct Tryz.prog 136 #[.int .i64 n] w (Is (.bool (varB n))) := by
  refine Ct.mk Tryz.func136 rfl rfl ?_
  refine Cd.seq ?_
  refine Cd.region ?_
  refine Ol.p asb ?_
  refine Ol.nil ?_
  have e : varB n = (decide (1 ≤ n) && decide (n ≤ 200)) := rfl
  refine Cd.seq ?_
  cases q0 : decide (1 ≤ n) with
  | true =>
    refine Cd.region ?_
    refine Ol.p mvi ?_
    refine Ol.p gei ?_
    refine Ol.p mvb ?_
    refine Ol.gp q0 mvi ?_
    refine Ol.gp q0 lei ?_
    refine Ol.p (pkTb q0) ?_
    refine Ol.p asb ?_
    refine Ol.nil ?_
    refine Cd.ret ⟨.bool _, ret1 rfl rfl, [], Keep.nil, congrArg Value.bool ?_, rfl⟩
    rw [e, q0]; try rfl
  | false =>
    refine Cd.region ?_
    refine Ol.p mvi ?_
    refine Ol.p gei ?_
    refine Ol.p mvb ?_
    refine Ol.gn q0 ?_
    refine Ol.gn q0 ?_
    refine Ol.p (pkFb q0) ?_
    refine Ol.p asb ?_
    refine Ol.nil ?_
    refine Cd.ret ⟨.bool _, ret1 rfl rfl, [], Keep.nil, congrArg Value.bool ?_, rfl⟩
    rw [e, q0]; try rfl
end
section
theorem a2_get (a b : Int) : ∀ (j : Nat) (u : Value), [Value.int .i64 a, .int .i64 b][j]? = some u → (j = 0 ∧ u = .int .i64 a) ∨ (j = 1 ∧ u = .int .i64 b) := fun j u hu => by
  match j, hu with
  | 0, hu => cases hu; exact .inl ⟨rfl, rfl⟩
  | 1, hu => cases hu; exact .inr ⟨rfl, rfl⟩
  | j + 2, hu => simp at hu
theorem tell_a2 {a b c d : Int} : ∀ (i : Nat) (u v : Value), #[Value.int .i64 a, .int .i64 b][i]? = some u → #[Value.int .i64 c, .int .i64 d][i]? = some v → Tell (.int .i64) u v := fun i u v hu hv => by
  match i, hu, hv with
  | 0, hu, hv => cases hu; cases hv; exact Tell.int
  | 1, hu, hv => cases hu; cases hv; exact Tell.int
  | i + 2, hu, _ => simp at hu
theorem tm_a2 (t : Tm) : ∀ (j : Nat) (u : Value), #[Value.int .i64 t.t0, .int .i64 t.t1].toList[j]? = some u → t.cells.toArray[0 + 2 + j]? = some u := fun j u hu => by
  rcases a2_get _ _ j u hu with ⟨rfl, rfl⟩ | ⟨rfl, rfl⟩ <;> rfl
set_option maxHeartbeats 1000000 in
theorem ref03_IsTerm_ct {w : World} {t : Tm} : Ct Tryz.prog 109 #[t.val] w (Is (.bool (isTerm t))) := by
  refine Ct.mk Tryz.func109 rfl rfl ?_
  refine Cd.seq ?_
  refine Cd.region ?_
  refine Ol.x bxg ?_
  rintro _ _ ⟨g1, rfl, rfl⟩
  refine Ol.p asb ?_
  refine Ol.nil ?_
  refine Cd.seq ?_
  refine Cd.seq ?_
  refine Cd.region ?_
  refine Ol.p (fdl fd_api_Term_0) ?_
  refine Ol.p (ld (v := .int .i64 t.kind) one_api_TermKind (Rd.blk (i := 0) rfl rfl)) ?_
  refine Ol.nil ?_
  refine Cd.block ?_   -- 0
  refine Cd.seq ?_
  refine Cd.region ?_
  refine Ol.p eqi ?_
  refine Ol.p asb ?_
  refine Ol.nil ?_
  refine Cd.cond rfl (fun h => ?_) (fun h1 => ?_)   -- $5
  · have h : t.kind = 1 := of_decide_eq_true h
    have e : isTerm t = (decide (t.a = 0) && decide (t.t1 = 0)) := by unfold isTerm noneB; simp [h]
    refine Cd.seq ?_
    cases q0 : decide (t.a = 0) with
    | true =>
      refine Cd.region ?_
      refine Ol.p (fdl fd_api_Term_1) ?_
      refine Ol.p (ld (v := .int .i64 t.a) one_int (Rd.blk (i := 0) rfl rfl)) ?_
      refine Ol.p eqi ?_
      refine Ol.p mvb ?_
      refine Ol.gp q0 (fdl fd_api_Term_2) ?_
      refine Ol.gp q0 (ixl (ix := 1) ar_A2_int) ?_
      refine Ol.gp q0 (ld (v := .int .i64 t.t1) one_int (Rd.blk (i := 0) rfl rfl)) ?_
      refine Ol.gp q0 eqi ?_
      refine Ol.p (pkTb q0) ?_
      refine Ol.p asb ?_
      refine Ol.nil ?_
      refine Cd.ret ⟨.bool _, ret1 rfl rfl, [], Keep.nil, congrArg Value.bool ?_, rfl⟩
      rw [e, q0]; try rfl
    | false =>
      refine Cd.region ?_
      refine Ol.p (fdl fd_api_Term_1) ?_
      refine Ol.p (ld (v := .int .i64 t.a) one_int (Rd.blk (i := 0) rfl rfl)) ?_
      refine Ol.p eqi ?_
      refine Ol.p mvb ?_
      refine Ol.gn q0 ?_
      refine Ol.gn q0 ?_
      refine Ol.gn q0 ?_
      refine Ol.gn q0 ?_
      refine Ol.p (pkFb q0) ?_
      refine Ol.p asb ?_
      refine Ol.nil ?_
      refine Cd.ret ⟨.bool _, ret1 rfl rfl, [], Keep.nil, congrArg Value.bool ?_, rfl⟩
      rw [e, q0]; try rfl
  have h1 : ¬ t.kind = 1 := of_decide_eq_false h1
  refine Cd.seq ?_
  refine Cd.region ?_
  refine Ol.p eqi ?_
  refine Ol.p asb ?_
  refine Ol.nil ?_
  refine Cd.cond rfl (fun h => ?_) (fun h2 => ?_)   -- $16
  · have h : t.kind = 2 := of_decide_eq_true h
    have e : isTerm t = varB t.a := by unfold isTerm; simp [h]
    refine Cd.seq ?_
    refine Cd.region ?_
    refine Ol.p (fdl fd_api_Term_1) ?_
    refine Ol.p (ld (v := .int .i64 t.a) one_int (Rd.blk (i := 0) rfl rfl)) ?_
    refine Ol.s (cl en_ref03_Var (fun M w' hh => ref03_Var_ct)) ?_
    refine Ol.p asb ?_
    refine Ol.nil ?_
    exact Cd.ret ⟨.bool _, ret1 rfl rfl, [], Keep.nil, by rw [e], rfl⟩
  have h2 : ¬ t.kind = 2 := of_decide_eq_false h2
  refine Cd.seq ?_
  refine Cd.region ?_
  refine Ol.p eqi ?_
  refine Ol.p asb ?_
  refine Ol.nil ?_
  refine Cd.cond rfl (fun h => ?_) (fun h3 => ?_)   -- $21
  · have h : t.kind = 3 := of_decide_eq_true h
    have e : isTerm t = ((bif decide (t.a = 0) then true else varB t.a) && decide (t.t0 = 0 ∧ t.t1 = 0)) := by
      unfold isTerm noneB fitsB
      cases h9 : decide (t.a = 0) <;> simp [h]
    refine Cd.seq ?_
    cases qa : decide (t.a = 0) with
    | true =>
      refine Cd.region ?_
      refine Ol.p (fdl fd_api_Term_1) ?_
      refine Ol.p (ld (v := .int .i64 t.a) one_int (Rd.blk (i := 0) rfl rfl)) ?_
      refine Ol.p eqi ?_
      refine Ol.p mvb ?_
      refine Ol.gn qa ?_
      refine Ol.gn qa ?_
      refine Ol.gn qa ?_
      refine Ol.p (pkTb qa) ?_
      refine Ol.p mvb ?_
      refine Ol.gp rfl (fdl fd_api_Term_2) ?_
      refine Ol.gp rfl (ldp (k := 0 + 2) (vs := #[.int .i64 t.t0, .int .i64 t.t1]) ag_A2_int (i := 0) rfl rfl (tm_a2 t)) ?_
      refine Ol.gp rfl (bda (cs := #[.int .i64 0, .int .i64 0]) ar_A2_int zr_A2_int (hf := by kernel_rfl)) ?_
      refine Ol.gp rfl (eqa (r := decide (t.t0 = 0 ∧ t.t1 = 0)) (xs := #[.int .i64 t.t0, .int .i64 t.t1]) (ys := #[.int .i64 0, .int .i64 0]) cm_A2_int rfl rfl tell_a2 (by simp)) ?_
      refine Ol.p (pkTb rfl) ?_
      refine Ol.p asb ?_
      refine Ol.nil ?_
      refine Cd.ret ⟨.bool _, ret1 rfl rfl, [], Keep.nil, congrArg Value.bool ?_, rfl⟩
      rw [e, qa]; rfl
    | false =>
      cases qv : varB t.a with
      | true =>
        refine Cd.region ?_
        refine Ol.p (fdl fd_api_Term_1) ?_
        refine Ol.p (ld (v := .int .i64 t.a) one_int (Rd.blk (i := 0) rfl rfl)) ?_
        refine Ol.p eqi ?_
        refine Ol.p mvb ?_
        refine Ol.gp qa (fdl fd_api_Term_1) ?_
        refine Ol.gp qa (ld (v := .int .i64 t.a) one_int (Rd.blk (i := 0) rfl rfl)) ?_
        refine Ol.gs qa (cl en_ref03_Var (fun M w' hh => ref03_Var_ct)) ?_
        refine Ol.p (pkFb qa) ?_
        refine Ol.p mvb ?_
        refine Ol.gp qv (fdl fd_api_Term_2) ?_
        refine Ol.gp qv (ldp (k := 0 + 2) (vs := #[.int .i64 t.t0, .int .i64 t.t1]) ag_A2_int (i := 0) rfl rfl (tm_a2 t)) ?_
        refine Ol.gp qv (bda (cs := #[.int .i64 0, .int .i64 0]) ar_A2_int zr_A2_int (hf := by kernel_rfl)) ?_
        refine Ol.gp qv (eqa (r := decide (t.t0 = 0 ∧ t.t1 = 0)) (xs := #[.int .i64 t.t0, .int .i64 t.t1]) (ys := #[.int .i64 0, .int .i64 0]) cm_A2_int rfl rfl tell_a2 (by simp)) ?_
        refine Ol.p (pkTb qv) ?_
        refine Ol.p asb ?_
        refine Ol.nil ?_
        refine Cd.ret ⟨.bool _, ret1 rfl rfl, [], Keep.nil, congrArg Value.bool ?_, rfl⟩
        rw [e, qa, qv]; rfl
      | false =>
        refine Cd.region ?_
        refine Ol.p (fdl fd_api_Term_1) ?_
        refine Ol.p (ld (v := .int .i64 t.a) one_int (Rd.blk (i := 0) rfl rfl)) ?_
        refine Ol.p eqi ?_
        refine Ol.p mvb ?_
        refine Ol.gp qa (fdl fd_api_Term_1) ?_
        refine Ol.gp qa (ld (v := .int .i64 t.a) one_int (Rd.blk (i := 0) rfl rfl)) ?_
        refine Ol.gs qa (cl en_ref03_Var (fun M w' hh => ref03_Var_ct)) ?_
        refine Ol.p (pkFb qa) ?_
        refine Ol.p mvb ?_
        refine Ol.gn qv ?_
        refine Ol.gn qv ?_
        refine Ol.gn qv ?_
        refine Ol.gn qv ?_
        refine Ol.p (pkFb qv) ?_
        refine Ol.p asb ?_
        refine Ol.nil ?_
        refine Cd.ret ⟨.bool _, ret1 rfl rfl, [], Keep.nil, congrArg Value.bool ?_, rfl⟩
        rw [e, qa, qv]; rfl
  have h3 : ¬ t.kind = 3 := of_decide_eq_false h3
  refine Cd.seq ?_
  refine Cd.region ?_
  refine Ol.p eqi ?_
  refine Ol.p asb ?_
  refine Ol.nil ?_
  refine Cd.cond rfl (fun h => ?_) (fun h4 => ?_)   -- $37
  · have h : t.kind = 4 := of_decide_eq_true h
    have e : isTerm t = (decide (t.a = 0) && decide (t.t0 = 0 ∧ t.t1 = 0)) := by unfold isTerm noneB; simp [h]
    refine Cd.seq ?_
    cases q0 : decide (t.a = 0) with
    | true =>
      refine Cd.region ?_
      refine Ol.p (fdl fd_api_Term_1) ?_
      refine Ol.p (ld (v := .int .i64 t.a) one_int (Rd.blk (i := 0) rfl rfl)) ?_
      refine Ol.p eqi ?_
      refine Ol.p mvb ?_
      refine Ol.gp q0 (fdl fd_api_Term_2) ?_
      refine Ol.gp q0 (ldp (k := 0 + 2) (vs := #[.int .i64 t.t0, .int .i64 t.t1]) ag_A2_int (i := 0) rfl rfl (tm_a2 t)) ?_
      refine Ol.gp q0 (bda (cs := #[.int .i64 0, .int .i64 0]) ar_A2_int zr_A2_int (hf := by kernel_rfl)) ?_
      refine Ol.gp q0 (eqa (r := decide (t.t0 = 0 ∧ t.t1 = 0)) (xs := #[.int .i64 t.t0, .int .i64 t.t1]) (ys := #[.int .i64 0, .int .i64 0]) cm_A2_int rfl rfl tell_a2 (by simp)) ?_
      refine Ol.p (pkTb q0) ?_
      refine Ol.p asb ?_
      refine Ol.nil ?_
      refine Cd.ret ⟨.bool _, ret1 rfl rfl, [], Keep.nil, congrArg Value.bool ?_, rfl⟩
      rw [e, q0]; try rfl
    | false =>
      refine Cd.region ?_
      refine Ol.p (fdl fd_api_Term_1) ?_
      refine Ol.p (ld (v := .int .i64 t.a) one_int (Rd.blk (i := 0) rfl rfl)) ?_
      refine Ol.p eqi ?_
      refine Ol.p mvb ?_
      refine Ol.gn q0 ?_
      refine Ol.gn q0 ?_
      refine Ol.gn q0 ?_
      refine Ol.gn q0 ?_
      refine Ol.p (pkFb q0) ?_
      refine Ol.p asb ?_
      refine Ol.nil ?_
      refine Cd.ret ⟨.bool _, ret1 rfl rfl, [], Keep.nil, congrArg Value.bool ?_, rfl⟩
      rw [e, q0]; try rfl
  have h4 : ¬ t.kind = 4 := of_decide_eq_false h4
  refine Cd.skip ?_
  refine Cd.seq ?_
  refine Cd.region ?_
  refine Ol.p asb ?_
  refine Ol.nil ?_
  exact Cd.ret ⟨.bool false, ret1 rfl rfl, [], Keep.nil, by unfold isTerm; simp [h1, h2, h3, h4], rfl⟩
end
section
theorem ref03_To_ct {w : World} {t : Tm} : Ct Tryz.prog 82 #[t.val] w (NewL 3 1 (toL t).length (ints (toL t))) := by
  refine Ct.mk Tryz.func82 rfl rfl ?_
  refine Cd.seq ?_
  refine Cd.region ?_
  refine Ol.x bxg ?_
  rintro _ _ ⟨g1, rfl, rfl⟩
  refine Ol.p ass ?_
  refine Ol.nil ?_
  refine Cd.seq ?_
  refine Cd.seq ?_
  refine Cd.region ?_
  refine Ol.p (ldw (cs := t.cells.toArray) ag_api_Term (i := 0) rfl rfl) ?_
  refine Ol.s (cl en_ref03_IsTerm (fun M w' hh => ref03_IsTerm_ct (t := t))) ?_
  refine Ol.p noti ?_
  refine Ol.nil ?_
  refine Cd.cond rfl (fun h => ?_) (fun h => ?_)   -- $5
  · have h0 : isTerm t = false := by simpa using h
    have e : toL t = [] := by unfold toL; rw [h0]; rfl
    rw [e]
    refine Cd.seq ?_
    refine Cd.region ?_
    refine Ol.p ass ?_
    refine Ol.nil ?_
    refine Cd.nr 3 1 ?_
    exact Cd.ret ⟨.slice none 0 0, ret1 rfl rfl, _, .sub (.cons_cons _ (.cons _ .slnil)), none, 0, rfl, rfl⟩
  have h0 : isTerm t = true := by simpa using h
  refine Cd.skip ?_
  refine Cd.seq ?_
  refine Cd.seq ?_
  refine Cd.region ?_
  refine Ol.p (fdl fd_api_Term_0) ?_
  refine Ol.p (ld (v := .int .i64 t.kind) one_api_TermKind (Rd.blk (i := 0) rfl rfl)) ?_
  refine Ol.nil ?_
  refine Cd.block ?_   -- 0
  refine Cd.seq ?_
  refine Cd.region ?_
  refine Ol.p eqi ?_
  refine Ol.p asb ?_
  refine Ol.nil ?_
  refine Cd.cond rfl (fun h1 => ?_) (fun h1 => ?_)   -- $8
  · have e : toL t = [t.t0] := by unfold toL; rw [h0, h1]; rfl
    rw [e]
    refine Cd.seq ?_
    refine Cd.region ?_
    refine Ol.p (fdl fd_api_Term_2) ?_
    refine Ol.p (ixl (ix := 0) ar_A2_int) ?_
    refine Ol.p (ld (v := .int .i64 t.t0) one_int (Rd.blk (i := 0) rfl rfl)) ?_
    refine Ol.x (bsv [.int .i64 t.t0] sl_L_int zr_int (by simp [Value.cells])) ?_
    rintro _ _ ⟨g13, rfl, rfl⟩
    refine Ol.p ass ?_
    refine Ol.nil ?_
    exact Cd.ret ⟨.slice _ _ _, ret1 rfl rfl, _, .sub (.cons_cons _ (.cons _ .slnil)), _, _, rfl, rfl⟩
  refine Cd.seq ?_
  refine Cd.region ?_
  refine Ol.p eqi ?_
  refine Ol.p asb ?_
  refine Ol.nil ?_
  refine Cd.cond rfl (fun h2 => ?_) (fun h2 => ?_)   -- $14
  · have e : toL t = [t.t0, t.t1] := by unfold toL; rw [h0, h1, h2]; rfl
    rw [e]
    refine Cd.seq ?_
    refine Cd.region ?_
    refine Ol.p (fdl fd_api_Term_2) ?_
    refine Ol.p (ixl (ix := 0) ar_A2_int) ?_
    refine Ol.p (ld (v := .int .i64 t.t0) one_int (Rd.blk (i := 0) rfl rfl)) ?_
    refine Ol.p (fdl fd_api_Term_2) ?_
    refine Ol.p (ixl (ix := 1) ar_A2_int) ?_
    refine Ol.p (ld (v := .int .i64 t.t1) one_int (Rd.blk (i := 0) rfl rfl)) ?_
    refine Ol.x (bsv [.int .i64 t.t0, .int .i64 t.t1] sl_L_int zr_int (by simp [Value.cells])) ?_
    rintro _ _ ⟨g13, rfl, rfl⟩
    refine Ol.p ass ?_
    refine Ol.nil ?_
    exact Cd.ret ⟨.slice _ _ _, ret1 rfl rfl, _, .sub (.cons_cons _ (.cons _ .slnil)), _, _, rfl, rfl⟩
  have e : toL t = [] := by unfold toL; rw [h0, h1, h2]; rfl
  rw [e]
  refine Cd.skip ?_
  refine Cd.seq ?_
  refine Cd.region ?_
  refine Ol.p ass ?_
  refine Ol.nil ?_
  refine Cd.nr 3 1 ?_
  exact Cd.ret ⟨.slice none 0 0, ret1 rfl rfl, _, .sub (.cons_cons _ (.cons _ .slnil)), none, 0, rfl, rfl⟩
end
end Go.Proofs.YtkefmjhagmacfaaGreatDoor

/- The document's answer of layer 03: instructions, walked. -/
namespace Go.Proofs.YtkefmjhagmacfaaGreatDoor
set_option linter.unusedVariables false
set_option linter.unusedSimpArgs false
open Go Go.RowKit
set_option maxRecDepth 100000

end Go.Proofs.YtkefmjhagmacfaaGreatDoor

/- What is reached from some blocks through open ones: plain Lean. -/
namespace Go.Proofs.YtkefmjhagmacfaaGreatDoor
set_option linter.unusedVariables false
open Go Go.RowKit

def toAt (ts : List Tm) (b : Nat) : List Int := match ts[b]? with
  | some t => toL t
  | none => []
theorem toAt_some {ts : List Tm} {b : Nat} {t : Tm} (h : ts[b]? = some t) : toAt ts b = toL t := by unfold toAt; rw [h]
def nextL (ts : List Tm) (s : Nat) (l : List Nat) : Nat := l.foldl (fun s b => withL s (toAt ts b)) s
def stepS (ts : List Tm) (op s : Nat) : Nat := nextL ts s (listS s) &&& op
def iterF {α : Type} (f : α → α) : Nat → α → α
  | 0, a => a
  | n + 1, a => f (iterF f n a)
def reachS (ts : List Tm) (op s : Nat) : Nat := iterF (stepS ts op) 1025 s
def Sub (s t : Nat) : Prop := ∀ i, s.testBit i = true → t.testBit i = true
theorem Sub.refl (s : Nat) : Sub s s := fun _ h => h
theorem Sub.trans {a b c : Nat} (h : Sub a b) (k : Sub b c) : Sub a c := fun i hi => k i (h i hi)
theorem Sub.eq {a b : Nat} (h : Sub a b) (k : Sub b a) : a = b := Nat.eq_of_testBit_eq fun i => by
  cases ha : a.testBit i <;> cases hb : b.testBit i <;> first | rfl | (have := h i ha; rw [hb] at this; cases this) | (have := k i hb; rw [ha] at this; cases this)
theorem Sub.sm {a b : Nat} (h : Sub a b) (hb : Sm b) : Sm a := fun n hn => by
  cases ha : a.testBit n with
  | false => rfl
  | true => have := h n ha; rw [hb n hn] at this; cases this
theorem testBit_nextL (ts : List Tm) : ∀ (l : List Nat) (s i : Nat), (nextL ts s l).testBit i = (s.testBit i || (okN i && l.any fun b => (toAt ts b).contains (i : Int)))
  | [], s, i => by simp [nextL]
  | b :: l, s, i => by
    show (nextL ts (withL s (toAt ts b)) l).testBit i = _
    rw [testBit_nextL ts l, testBit_withL, List.any_cons]
    cases s.testBit i <;> cases okN (i : Int) <;> simp
theorem nextL_sm {ts : List Tm} {l : List Nat} {s : Nat} (hs : Sm s) : Sm (nextL ts s l) := fun n hn => by
  rw [testBit_nextL, hs n hn]
  have : okN (n : Int) = false := by
    cases h : okN (n : Int) with
    | false => rfl
    | true => rw [okN_iff] at h; omega
  rw [this]; rfl
theorem nextL_snoc {ts : List Tm} {s : Nat} {l : List Nat} {k b : Nat} (h : l[k]? = some b) : nextL ts s (l.take (k + 1)) = withL (nextL ts s (l.take k)) (toAt ts b) := by
  rw [take_snoc_ h]; unfold nextL; rw [List.foldl_append]; rfl
theorem stepS_sm {ts : List Tm} {op s : Nat} (hs : Sm s) : Sm (stepS ts op s) := and_sm (nextL_sm hs)
theorem sub_step {ts : List Tm} {op s : Nat} (h : Sub s op) : Sub s (stepS ts op s) := fun i hi => by
  unfold stepS
  rw [Nat.testBit_and, testBit_nextL, hi, h i hi]; rfl
theorem step_sub (ts : List Tm) (op s : Nat) : Sub (stepS ts op s) op := fun i hi => by
  unfold stepS at hi
  rw [Nat.testBit_and] at hi
  simp only [Bool.and_eq_true] at hi
  exact hi.2
/-- One is in what comes next, just if it was there, or an edge from one that was there goes to it, and it is open. -/
theorem mem_step {ts : List Tm} {op s i : Nat} (hs : Sm s) : (stepS ts op s).testBit i = true ↔ op.testBit i = true ∧ (s.testBit i = true ∨ (i < 1024 ∧ ∃ b, s.testBit b = true ∧ (i : Int) ∈ toAt ts b)) := by
  unfold stepS
  rw [Nat.testBit_and, testBit_nextL]
  simp only [Bool.and_eq_true, Bool.or_eq_true, List.any_eq_true, List.contains_iff_mem]
  constructor
  · rintro ⟨h1 | ⟨h1, b, h2, h3⟩, h4⟩
    · exact ⟨h4, .inl h1⟩
    · exact ⟨h4, .inr ⟨by rw [okN_iff] at h1; omega, b, (mem_listS.1 h2).2, h3⟩⟩
  · rintro ⟨h4, h1 | ⟨h1, b, h2, h3⟩⟩
    · exact ⟨.inl h1, h4⟩
    · refine ⟨.inr ⟨by rw [okN_iff]; omega, b, mem_listS.2 ⟨?_, h2⟩, h3⟩, h4⟩
      rcases Nat.lt_or_ge b 1024 with h | h
      · exact h
      · rw [hs b h] at h2; cases h2
theorem upto_len_mono {s t : Nat} (h : Sub s t) : ∀ n, (upto s n).length ≤ (upto t n).length
  | 0 => by simp [upto_zero]
  | n + 1 => by
    have ih := upto_len_mono h n
    rw [upto_succ, upto_succ, List.length_append, List.length_append]
    cases hs : s.testBit n with
    | false => simp; omega
    | true => rw [h n hs]; simp; omega
theorem upto_len_lt {s t i : Nat} (h : Sub s t) (h1 : s.testBit i = false) (h2 : t.testBit i = true) : ∀ n, i < n → (upto s n).length < (upto t n).length
  | 0, hn => by omega
  | n + 1, hn => by
    rw [upto_succ, upto_succ, List.length_append, List.length_append]
    by_cases he : i = n
    · subst he
      rw [h1, h2]
      have := upto_len_mono h i
      simp; omega
    · have ih := upto_len_lt h h1 h2 n (by omega)
      cases hs : s.testBit n with
      | false => simp; omega
      | true => rw [h n hs]; simp; omega
theorem listS_lt {s t : Nat} (h : Sub s t) (ht : Sm t) (hne : s ≠ t) : (listS s).length < (listS t).length := by
  have : ∃ i, s.testBit i = false ∧ t.testBit i = true := by
    apply Classical.byContradiction
    intro hc
    apply hne
    refine h.eq fun i hi => ?_
    cases hs : s.testBit i with
    | true => rfl
    | false => exact absurd ⟨i, hs, hi⟩ hc
  obtain ⟨i, h1, h2⟩ := this
  refine upto_len_lt h h1 h2 1024 ?_
  rcases Nat.lt_or_ge i 1024 with hi | hi
  · exact hi
  · rw [ht i hi] at h2; cases h2
theorem iter_fix {α : Type} {f : α → α} {a : α} {k : Nat} (h : f (iterF f k a) = iterF f k a) : ∀ m, k ≤ m → iterF f m a = iterF f k a
  | 0, hm => by rw [show k = 0 by omega]
  | m + 1, hm => by
    by_cases he : k = m + 1
    · rw [he]
    · show f (iterF f m a) = _
      rw [iter_fix h m (by omega)]; exact h
/-- The blocks, all of them. -/
def allS (n : Nat) : Nat := (List.range n).foldl (fun s (b : Nat) => withL s [(b : Int)]) 0
theorem allS_succ (n : Nat) : allS (n + 1) = withL (allS n) [(n : Int)] := by unfold allS; rw [List.range_succ, List.foldl_append, List.foldl_cons, List.foldl_nil]
theorem testBit_allS : ∀ (n i : Nat), n ≤ 1024 → (allS n).testBit i = decide (i < n)
  | 0, i, _ => by simp [allS]
  | n + 1, i, h => by
    rw [allS_succ, testBit_withL, testBit_allS n i (by omega)]
    by_cases he : i = n
    · subst he
      have : okN (i : Int) = true := by rw [okN_iff]; omega
      simp [this]
    · have h1 : ([(n : Int)].contains (i : Int)) = false := by simp; omega
      rw [h1]
      simp; omega
theorem allS_sm {n : Nat} (h : n ≤ 1024) : Sm (allS n) := fun i hi => by rw [testBit_allS n i h]; simp; omega
/-- What Reached tells. -/
def reachedF (ts : List Tm) (fr nt : List Int) : List Nat := bif closed ts then listS (reachS ts (lessL (allS ts.length) nt) (lessL (allS ts.length) nt &&& ofL fr)) else []
end Go.Proofs.YtkefmjhagmacfaaGreatDoor

/- Blocks of one's own behind a slice; the order of a walk in depth. -/
namespace Go.Proofs.YtkefmjhagmacfaaGreatDoor
set_option linter.unusedVariables false
open Go Go.RowKit

/-- A row of one's own is a block. -/
theorem Hp.unrow {w0 w : World} {B g n c e s : Nat} {M L : List Res} {xs : List Value} (h : Hp w0 B (M ++ (row (.slice (some ⟨g, 0, none⟩) n c) e s n xs :: L)) w) : ∃ cs : Array Value, cs.size = c * s ∧ cs.toList.take (n * s) = xs ∧ Hp w0 B (M ++ (blk g (.cells cs e) :: L)) w := by
  have hr : w.ownsRow 0 e s (.slice (some ⟨g, 0, none⟩) n c) n xs := h.has (row (.slice (some ⟨g, 0, none⟩) n c) e s n xs) (by simp)
  rcases hr.2 with ⟨h1, _⟩ | ⟨g', cap, cur, hv, _, hg, _, _, hs, ht⟩
  · cases h1
  · injection hv with h1 _ h3
    cases h1
    subst h3
    refine ⟨cur, hs, ht, ?_⟩
    exact Hp.set0 (r := row (.slice (some ⟨g, 0, none⟩) n c) e s n xs) (r' := blk g (.cells cur e)) h (Stp.refl _ _) hg (fun k hk => by
      have : k = g := hk
      subst this
      simp [row, Value.ownBlock])
theorem Ol.unrow {C : Ctx} {all : Array Oper} {l : List Oper} {K : Env → List Res → Prop} {σ : Env} {L : List Res} {g n c e s : Nat} {xs : List Value} (h : ∀ cs : Array Value, cs.size = c * s → cs.toList.take (n * s) = xs → Ol C all l K σ (blk g (.cells cs e) :: L)) : Ol C all l K σ (row (.slice (some ⟨g, 0, none⟩) n c) e s n xs :: L) := fun a w Q ha hs hq => by
  obtain ⟨cs, h1, h2, h3⟩ := Hp.unrow hs.heap
  exact h cs h1 h2 a w Q ha ⟨hs.size, h3⟩ hq
section
variable {P : Program} {w0 : World} {B : Nat} {σ : Env} {L : List Res} {d : Option Nat} {ty T : TypeId} {pos : String} {af : Array Edge} {gd : Option (Nat × Bool)} {x y z : Operand} {v : Value}
/-- An element of a slice that lies in a block that is known. -/
theorem ixo {k : IntKind} {ix n c e s b g off : Nat} (hT : SlT P T e s b) (hx : ev σ x = .slice (some ⟨g, off, none⟩) n c := by exact rfl) (hy : ev σ y = .int k (ix : Int) := by exact rfl) (h : ix < n := by omega) :
    Sd P w0 B ⟨d, .indexAddr T x y, ty, pos, af, gd⟩ σ L (.pointer (some ⟨g, off + ix * s, none⟩)) := by
  have := ixn (d := d) (ty := ty) (pos := pos) (af := af) (gd := gd) (P := P) (w0 := w0) (B := B) (L := L) hT Som.lit hx hy h
  have e1 : ap (some (⟨g, off, none⟩ : Addr)) (ix * s) = ⟨g, off + ix * s, none⟩ := by simp [ap, add_lit_]
  rwa [e1] at this
theorem ixo1 {k : IntKind} {ix n c e b g : Nat} (hT : SlT P T e 1 b) (hx : ev σ x = .slice (some ⟨g, 0, none⟩) n c := by exact rfl) (hy : ev σ y = .int k (ix : Int) := by exact rfl) (h : ix < n := by omega) :
    Sd P w0 B ⟨d, .indexAddr T x y, ty, pos, af, gd⟩ σ L (.pointer (some ⟨g, ix, none⟩)) := by
  have := ixo (d := d) (ty := ty) (pos := pos) (af := af) (gd := gd) (P := P) (w0 := w0) (B := B) (L := L) hT hx hy h
  rwa [Nat.mul_one, Nat.zero_add] at this
end
/-- What can be read of a slice, whoever is called, while L is held. -/
def RdS (w0 : World) (B : Nat) (L : List Res) (s : Nat) (A : Option Addr) (n : Nat) (xs : List Value) : Prop := ∀ M w, Hp w0 B (M ++ L) w → Reads w w.heap.size s A n xs
section
variable {w0 : World} {B s n c i : Nat} {L L' : List Res} {A : Option Addr} {xs : List Value}
theorem RdS.slc (h : Reads w0 B s A n xs) : RdS w0 B L s A n xs := fun M w hh => h.now hh
theorem RdS.row {e : TypeId} (hi : L[i]? = some (row (.slice A n c) e s n xs)) : RdS w0 B L s A n xs := fun M w hh => Reads.row hh hi
theorem RdS.keep (h : RdS w0 B L s A n xs) (hk : Keep L' L) : RdS w0 B L' s A n xs := fun M w hh => h M w (hk.hp hh)
theorem RdS.more (h : RdS w0 B L s A n xs) {r : Res} : RdS w0 B (r :: L) s A n xs := h.keep (.sub (.cons _ (List.Sublist.refl _)))
theorem RdS.nil : RdS w0 B L s A 0 [] := fun M w hh => ⟨by simp, fun h => by omega⟩
theorem RdS.blk {g k : Nat} {cs : Array Value} {e : TypeId} {fz : Nat × Nat} (hi : L[i]? = some (blk g (.cells cs e fz))) (hl : xs.length = n) (hx : ∀ j u, xs[j]? = some u → cs[k + j]? = some u) : RdS w0 B L 1 (some ⟨g, k, none⟩) n xs := fun M w hh => Reads.blk hh hi hl hx
end
/-- A slice that is handed over: in a block, from some place on; or empty. -/
def PartL (e n : Nat) (xs : List Value) : Value → List Res → Prop := fun v L => (n = 0 ∧ xs = [] ∧ v = .slice none 0 0 ∧ L = []) ∨ ∃ g k c cs, v = .slice (some ⟨g, k, none⟩) n c ∧ L = [blk g (.cells cs e)] ∧ xs.length = n ∧ ∀ j u, xs[j]? = some u → cs[k + j]? = some u
theorem slo {P : Program} {w0 : World} {B : Nat} {σ : Env} {L : List Res} {d : Option Nat} {ty T : TypeId} {pos : String} {af : Array Edge} {gd : Option (Nat × Bool)} {x y : Operand} {g off n c e s b l : Nat} {k : IntKind} (hT : SlT P T e s b) (hl : l ≤ n) (hc : l < c) (hx : ev σ x = .slice (some ⟨g, off, none⟩) n c := by exact rfl) (hy : ev σ y = .int k (l : Int) := by exact rfl) :
    Sd P w0 B ⟨d, .slice T x (some y) none none, ty, pos, af, gd⟩ σ L (.slice (some ⟨g, off + l * s, none⟩) (n - l) (c - l)) := by
  have := sll (d := d) (ty := ty) (pos := pos) (af := af) (gd := gd) (P := P) (w0 := w0) (B := B) (L := L) hT hl hx hy
  rw [if_neg (by omega)] at this
  simpa [add_lit_] using this
theorem made_ints (n : Nat) : (madeCells #[.int .i64 0] (n * 1)).toList.take (n * 1) = List.replicate n (.int .i64 0) := by
  rw [Nat.mul_one, List.take_of_length_le (by simp [madeCells])]
  apply List.ext_getElem?
  intro i
  by_cases h : i < n
  · simp [madeCells, h]
    rw [Nat.mod_one]; rfl
  · simp [madeCells, h]

/-! ### A walk in depth -/
abbrev Dst := Nat × List Nat
def dfs (ts : List Tm) : Nat → Nat → Dst → Dst
  | 0, _, st => st
  | n + 1, b, st => bif st.1.testBit b then st else
    let r := (toAt ts b).foldl (fun st t => dfs ts n t.toNat st) (withL st.1 [(b : Int)], st.2)
    (r.1, b :: r.2)
def orderF (ts : List Tm) : List Nat := bif closed ts then (dfs ts (ts.length + 1) 0 (0, [])).2 else []
def card (s n : Nat) : Nat := (upto s n).length
theorem card_le (s n : Nat) : card s n ≤ n := upto_len_le s n
theorem testBit_with1 (s b i : Nat) (hb : b < 1024) : (withL s [(b : Int)]).testBit i = (s.testBit i || decide (i = b)) := by
  rw [testBit_withL]
  by_cases h : i = b
  · subst h
    have : okN (i : Int) = true := by rw [okN_iff]; omega
    simp [this]
  · have h1 : ([(b : Int)].contains (i : Int)) = false := by simp; omega
    rw [h1]; simp [h]
theorem sub_with1 (s b : Nat) : Sub s (withL s [(b : Int)]) := fun i hi => by rw [testBit_withL, hi]; rfl
theorem card_with1 {s b n : Nat} (hb : b < n) (hn : n ≤ 1024) (h : s.testBit b = false) : card s n < card (withL s [(b : Int)]) n :=
  upto_len_lt (sub_with1 s b) h (by rw [testBit_with1 s b b (by omega)]; simp) n hb
theorem card_mono {s t n : Nat} (h : Sub s t) : card s n ≤ card t n := upto_len_mono h n
def outC (n : Nat) (acc : List Nat) : Array Value := (List.replicate (n - acc.length) (Value.int .i64 0) ++ intsN acc).toArray
theorem outC_size {n : Nat} {acc : List Nat} (h : acc.length ≤ n) : (outC n acc).size = n := by simp [outC, intsN]; omega
theorem outC_nil (n : Nat) {cs : Array Value} (h1 : cs.size = n * 1) (h2 : cs.toList.take (n * 1) = (madeCells #[.int .i64 0] (n * 1)).toList.take (n * 1)) : cs = outC n [] := by
  apply Array.ext'
  rw [made_ints, List.take_of_length_le (by simp; omega)] at h2
  rw [h2]; simp [outC, intsN]
theorem outC_cons {n b : Nat} {acc : List Nat} (h : acc.length < n) : (outC n acc).setIfInBounds (n - (acc.length + 1)) (.int .i64 (b : Int)) = outC n (b :: acc) := by
  apply Array.ext'
  unfold outC
  rw [Array.toList_setIfInBounds]
  have e : n - acc.length = (n - (acc.length + 1)) + 1 := by omega
  simp only [List.length_cons, e, List.replicate_succ', List.append_assoc]
  rw [List.set_append_right _ _ (by simp)]
  simp [intsN]
end Go.Proofs.YtkefmjhagmacfaaGreatDoor

/- Reaching and the order of blocks: plain laws. -/
namespace Go.Proofs.YtkefmjhagmacfaaGreatDoor
set_option linter.unusedVariables false
set_option maxRecDepth 10000
open Go Go.RowKit

/-- A way from a to b. -/
inductive Rc (ts : List Tm) (a : Nat) : Nat → Prop
  | refl : Rc ts a a
  | step {b c : Nat} : Rc ts a b → (c : Int) ∈ toAt ts b → Rc ts a c
theorem Rc.trans {ts : List Tm} {a b c : Nat} (h : Rc ts a b) (k : Rc ts b c) : Rc ts a c := by
  induction k with
  | refl => exact h
  | step _ h2 ih => exact .step ih h2
theorem Rc.one {ts : List Tm} {a b : Nat} (h : (b : Int) ∈ toAt ts a) : Rc ts a b := .step .refl h
theorem iterF_sub {ts : List Tm} {op s : Nat} (h : Sub s op) : ∀ k, Sub (iterF (stepS ts op) k s) op
  | 0 => h
  | k + 1 => step_sub _ _ _
theorem reach_fix {ts : List Tm} {op s : Nat} (h : Sub s op) (hop : Sm op) : stepS ts op (reachS ts op s) = reachS ts op s := by
  have key : ∀ k, (∃ j, j ≤ k ∧ stepS ts op (iterF (stepS ts op) j s) = iterF (stepS ts op) j s) ∨ k ≤ (listS (iterF (stepS ts op) k s)).length := by
    intro k
    induction k with
    | zero => exact .inr (Nat.zero_le _)
    | succ k ih =>
      rcases ih with ⟨j, hj, hf⟩ | ih
      · exact .inl ⟨j, by omega, hf⟩
      · by_cases he : stepS ts op (iterF (stepS ts op) k s) = iterF (stepS ts op) k s
        · exact .inl ⟨k, by omega, he⟩
        · right
          have hs := sub_step (ts := ts) (iterF_sub (ts := ts) h k)
          have := listS_lt hs ((step_sub ts op _).sm hop) (fun e => he e.symm)
          show k + 1 ≤ (listS (stepS ts op (iterF (stepS ts op) k s))).length
          omega
  unfold reachS
  rcases key 1025 with ⟨j, hj, hf⟩ | hl
  · rw [iter_fix hf 1025 hj]; exact hf
  · have := listS_len_le (iterF (stepS ts op) 1025 s)
    omega
theorem reach_sub_ {ts : List Tm} {op s : Nat} (h : Sub s op) : Sub s (reachS ts op s) := by
  unfold reachS
  have : ∀ k, Sub s (iterF (stepS ts op) k s) := by
    intro k
    induction k with
    | zero => exact Sub.refl s
    | succ k ih => exact ih.trans (sub_step (iterF_sub h k))
  exact this _
theorem toAt_lt {ts : List Tm} (hc : closed ts = true) {b : Nat} {t : Int} (h : t ∈ toAt ts b) : 0 ≤ t ∧ t < ts.length ∧ b < ts.length := by
  unfold toAt at h
  split at h
  · rename_i u hu
    obtain ⟨j, hj⟩ := List.mem_iff_getElem?.1 h
    have hm : (⟨(b : Int), (j : Int), t⟩ : Ed) ∈ edges ts := mem_edges.2 ⟨b, j, u, hu, hj, rfl, rfl⟩
    unfold closed at hc
    simp only [Bool.and_eq_true, decide_eq_true_eq, List.all_eq_true] at hc
    have := hc.1.1 _ hm
    exact ⟨this.1, this.2, (List.getElem?_eq_some_iff.1 hu).1⟩
  · cases h
theorem closed_le {ts : List Tm} (hc : closed ts = true) : 0 < ts.length ∧ ts.length ≤ 200 := by
  unfold closed at hc
  simp only [Bool.and_eq_true, decide_eq_true_eq] at hc
  exact ⟨hc.1.2, hc.2⟩
/-! ### The walk in depth -/
def After (l : List Nat) (x y : Nat) : Prop := ∃ p q, l = p ++ x :: q ∧ y ∈ q
theorem After.more {l : List Nat} {x y : Nat} (h : After l x y) (r : List Nat) : After (r ++ l) x y := by
  obtain ⟨p, q, rfl, hy⟩ := h
  exact ⟨r ++ p, q, by simp, hy⟩
structure DPre (ts : List Tm) (b : Nat) (st : Dst) : Prop where
  sm : Sm st.1
  acc : ∀ y ∈ st.2, st.1.testBit y = true
  nd : st.2.Nodup
  gray : ∀ y, st.1.testBit y = true → y ∈ st.2 ∨ Rc ts y b
structure DPost (ts : List Tm) (b : Nat) (st : Dst) (r : Dst) (nl : List Nat) : Prop where
  eq : r.2 = nl ++ st.2
  seen : ∀ i, r.1.testBit i = true ↔ st.1.testBit i = true ∨ i ∈ nl
  sm : Sm r.1
  nd : (nl ++ st.2).Nodup
  new : ∀ x ∈ nl, Rc ts b x ∧ st.1.testBit x = false ∧ x < ts.length
  next : ∀ x ∈ nl, ∀ y : Nat, (y : Int) ∈ toAt ts x → r.1.testBit y = true ∧ (After (nl ++ st.2) x y ∨ Rc ts y x)
theorem fold_spec {ts : List Tm} (hc : closed ts = true) {fuel b : Nat} (ih : ∀ (b : Nat) (st : Dst), b < ts.length → ts.length - card st.1 ts.length < fuel → DPre ts b st → ∃ new, DPost ts b st (dfs ts fuel b st) new ∧ (dfs ts fuel b st).1.testBit b = true) :
    ∀ (l : List Int) (st : Dst), (∀ t ∈ l, t ∈ toAt ts b) → ts.length - card st.1 ts.length < fuel → DPre ts b st → ∃ new, DPost ts b st (l.foldl (fun st t => dfs ts fuel t.toNat st) st) new ∧ ∀ t : Nat, (t : Int) ∈ l → (l.foldl (fun st t => dfs ts fuel t.toNat st) st).1.testBit t = true
  | [], st, _, _, h => ⟨[], ⟨rfl, fun i => by simp, h.sm, h.nd, fun x h => (by cases h), fun x h => (by cases h)⟩, fun t h => (by cases h)⟩
  | t :: l, st, hl, hf, h => by
    have htm := hl t (by simp)
    have htl := toAt_lt hc htm
    have hcast : ((t.toNat : Nat) : Int) = t := by omega
    obtain ⟨n1, p1, q1⟩ := ih t.toNat st (by omega) hf ⟨h.sm, h.acc, h.nd, fun y hy => (h.gray y hy).imp id fun hr => .step hr (by rw [hcast]; exact htm)⟩
    obtain ⟨st1, hst1⟩ : ∃ st1, st1 = dfs ts fuel t.toNat st := ⟨_, rfl⟩
    rw [← hst1] at p1 q1
    have hmono : card st.1 ts.length ≤ card st1.1 ts.length := card_mono fun i hi => (p1.seen i).2 (.inl hi)
    obtain ⟨n2, p2, q2⟩ := fold_spec hc ih l st1 (fun t ht => hl t (by simp [ht])) (by omega)
      ⟨p1.sm, fun y hy => by
        rw [p1.eq, List.mem_append] at hy
        exact (p1.seen y).2 (hy.elim .inr fun h2 => .inl (h.acc y h2)), by rw [p1.eq]; exact p1.nd, fun y hy => by
        rw [p1.eq, List.mem_append]
        rcases (p1.seen y).1 hy with h2 | h2
        · rcases h.gray y h2 with h3 | h3
          · exact .inl (.inr h3)
          · exact .inr h3
        · exact .inl (.inl h2)⟩
    have e : (t :: l).foldl (fun st t => dfs ts fuel t.toNat st) st = l.foldl (fun st t => dfs ts fuel t.toNat st) st1 := by rw [hst1]; rfl
    rw [e]
    have eq2 : n2 ++ st1.2 = n2 ++ n1 ++ st.2 := by rw [p1.eq]; simp
    refine ⟨n2 ++ n1, ⟨by rw [p2.eq, eq2], fun i => by rw [p2.seen, p1.seen, List.mem_append]; exact ⟨fun h => by rcases h with (h | h) | h <;> simp [h], fun h => by rcases h with h | h | h <;> simp [h]⟩, p2.sm, by rw [← eq2]; exact p2.nd, fun x hx => ?_, fun x hx y hy => ?_⟩, fun u hu => ?_⟩
    · rcases List.mem_append.1 hx with hx | hx
      · obtain ⟨h1, h2, h3⟩ := p2.new x hx
        refine ⟨h1, ?_, h3⟩
        cases h4 : st.1.testBit x with
        | false => rfl
        | true => rw [(p1.seen x).2 (.inl h4)] at h2; cases h2
      · obtain ⟨h1, h2, h3⟩ := p1.new x hx
        exact ⟨(Rc.one (by rw [hcast]; exact htm)).trans h1, h2, h3⟩
    · rw [← eq2]
      rcases List.mem_append.1 hx with hx | hx
      · exact p2.next x hx y hy
      · obtain ⟨h1, h2⟩ := p1.next x hx y hy
        refine ⟨(p2.seen y).2 (.inl h1), h2.imp (fun h3 => ?_) id⟩
        rw [p1.eq]; exact h3.more n2
    · rcases List.mem_cons.1 hu with hu | hu
      · subst hu
        exact (p2.seen u).2 (.inl (by simpa using q1))
      · exact q2 u hu
theorem dfs_spec {ts : List Tm} (hc : closed ts = true) : ∀ (fuel b : Nat) (st : Dst), b < ts.length → ts.length - card st.1 ts.length < fuel → DPre ts b st → ∃ new, DPost ts b st (dfs ts fuel b st) new ∧ (dfs ts fuel b st).1.testBit b = true := by
  intro fuel
  induction fuel with
  | zero => intro b st _ h; omega
  | succ fuel ih =>
    intro b st hb hf h
    have hl := (closed_le hc).2
    cases hs : st.1.testBit b with
    | true =>
      have e : dfs ts (fuel + 1) b st = st := by simp only [dfs, hs, cond_true]
      rw [e]
      exact ⟨[], ⟨rfl, fun i => by simp, h.sm, h.nd, fun x h => (by cases h), fun x h => (by cases h)⟩, hs⟩
    | false =>
      obtain ⟨s1, hs1⟩ : ∃ s1, s1 = withL st.1 [(b : Int)] := ⟨_, rfl⟩
      have hbit : ∀ i, s1.testBit i = true ↔ st.1.testBit i = true ∨ i = b := fun i => by rw [hs1, testBit_with1 _ _ _ (by omega)]; simp
      have hgrow : card st.1 ts.length < card s1 ts.length := by rw [hs1]; exact card_with1 hb (by omega) hs
      have hcl := card_le s1 ts.length
      obtain ⟨nw, p, q⟩ := fold_spec hc (b := b) ih (toAt ts b) (s1, st.2) (fun t h => h) (by show ts.length - card s1 ts.length < fuel; omega)
        ⟨by rw [hs1]; exact withL_sm h.sm, fun y hy => (hbit y).2 (.inl (h.acc y hy)), h.nd, fun y hy => by
          rcases (hbit y).1 hy with h1 | rfl
          · exact h.gray y h1
          · exact .inr .refl⟩
      obtain ⟨r, hr⟩ : ∃ r, r = (toAt ts b).foldl (fun st t => dfs ts fuel t.toNat st) (s1, st.2) := ⟨_, rfl⟩
      have e : dfs ts (fuel + 1) b st = (r.1, b :: r.2) := by simp only [dfs, hs, cond_false, hr, hs1]
      rw [← hr] at p q
      rw [e]
      have hbs : r.1.testBit b = true := (p.seen b).2 (.inl ((hbit b).2 (.inr rfl)))
      have hbn : b ∉ nw := fun hm => by
        have := (p.new b hm).2.1
        rw [(hbit b).2 (.inr rfl)] at this; cases this
      have hba : b ∉ st.2 := fun hm => by rw [h.acc b hm] at hs; cases hs
      refine ⟨b :: nw, ⟨by rw [p.eq]; rfl, fun i => by
        rw [p.seen, hbit, List.mem_cons]
        exact or_assoc, p.sm, by
        rw [List.cons_append, List.nodup_cons, List.mem_append]
        exact ⟨fun h => h.elim hbn hba, p.nd⟩, fun x hx => ?_, fun x hx y hy => ?_⟩, hbs⟩
      · rcases List.mem_cons.1 hx with rfl | hx
        · exact ⟨.refl, hs, hb⟩
        · obtain ⟨h1, h2, h3⟩ := p.new x hx
          refine ⟨h1, ?_, h3⟩
          cases h4 : st.1.testBit x with
          | false => rfl
          | true => rw [(hbit x).2 (.inl h4)] at h2; cases h2
      · rcases List.mem_cons.1 hx with rfl | hx
        · have hy1 := q y hy
          refine ⟨hy1, ?_⟩
          rcases (p.seen y).1 hy1 with h1 | h1
          · rcases (hbit y).1 h1 with h2 | rfl
            · rcases h.gray y h2 with h3 | h3
              · exact .inl ⟨[], nw ++ st.2, rfl, List.mem_append_right _ h3⟩
              · exact .inr h3
            · exact .inr .refl
          · exact .inl ⟨[], nw ++ st.2, rfl, List.mem_append_left _ h1⟩
        · obtain ⟨h1, h2⟩ := p.next x hx y hy
          exact ⟨h1, h2.imp (fun h3 => h3.more [b]) id⟩

theorem nodup_le : ∀ (l m : List Nat), l.Nodup → (∀ x ∈ l, x ∈ m) → l.length ≤ m.length
  | [], m, _, _ => Nat.zero_le _
  | x :: l, m, hn, h => by
    rw [List.nodup_cons] at hn
    have hx := h x (by simp)
    have := nodup_le l (m.erase x) hn.2 fun y hy => (List.mem_erase_of_ne (fun e => hn.1 (by subst e; exact hy))).2 (h y (by simp [hy]))
    rw [List.length_erase_of_mem hx] at this
    have : 0 < m.length := List.length_pos_of_mem hx
    simp only [List.length_cons]
    omega
theorem order_spec {ts : List Tm} (hc : closed ts = true) : ∃ r nw, r = dfs ts (ts.length + 1) 0 (0, []) ∧ orderF ts = nw ∧ DPost ts 0 (0, []) r nw ∧ r.1.testBit 0 = true := by
  obtain ⟨nw, p, q⟩ := dfs_spec hc (ts.length + 1) 0 (0, []) (closed_le hc).1 (by omega) ⟨fun n _ => by simp, fun y h => (by cases h), List.nodup_nil, fun y h => by simp at h⟩
  refine ⟨_, nw, rfl, ?_, p, q⟩
  unfold orderF
  rw [hc, cond_true, p.eq]
  simp
theorem order_nodup {ts : List Tm} (hc : closed ts = true) : (orderF ts).Nodup := by
  obtain ⟨r, nw, _, e, p, _⟩ := order_spec hc
  rw [e]; simpa using p.nd
theorem order_edge {ts : List Tm} (hc : closed ts = true) {a y : Nat} (ha : a ∈ orderF ts) (hy : (y : Int) ∈ toAt ts a) : y ∈ orderF ts ∧ (After (orderF ts) a y ∨ Rc ts y a) := by
  obtain ⟨r, nw, _, e, p, _⟩ := order_spec hc
  rw [e] at ha ⊢
  obtain ⟨h1, h2⟩ := p.next a ha y hy
  exact ⟨by simpa using (p.seen y).1 h1, by simpa using h2⟩
theorem dfs_head {ts : List Tm} {k b : Nat} {st : Dst} (h : st.1.testBit b = false) : ∃ r : Dst, dfs ts (k + 1) b st = (r.1, b :: r.2) :=
  ⟨(toAt ts b).foldl (fun st t => dfs ts k t.toNat st) (withL st.1 [(b : Int)], st.2), by simp only [dfs, h, cond_false]⟩
theorem order_head {ts : List Tm} (hc : closed ts = true) : ∃ t, orderF ts = 0 :: t := by
  obtain ⟨r, hr⟩ := dfs_head (ts := ts) (k := ts.length) (b := 0) (st := (0, [])) (by simp)
  refine ⟨r.2, ?_⟩
  unfold orderF
  rw [hc, cond_true, hr]
/-! places -/
def placeI (l : List Int) (n : Int) : Int := match l.findIdx? (fun x => decide (x = n)) with
  | some i => (i : Int)
  | none => -1
end Go.Proofs.YtkefmjhagmacfaaGreatDoor

/- Plain laws behind ir.Right: edges that go to blocks, a search that reaches what can be reached. -/
namespace Go.Proofs.YtkefmjhagmacfaaGreatDoor
set_option linter.unusedVariables false
open Go Go.RowKit

/-- All edges go to blocks, none to the first. -/
def okEs (ts : List Tm) : Bool := ts.all fun t => (toL t).all fun n => decide (1 ≤ n) && decide (n < (ts.length : Int))
def setB (S : Nat → Bool) (x : Nat) : Nat → Bool := fun i => if i = x then true else S i
def cntB (n : Nat) (S : Nat → Bool) : Nat := ((List.range n).filter S).length
theorem cntB_le (n : Nat) (S : Nat → Bool) : cntB n S ≤ n := by
  unfold cntB
  have := List.length_filter_le S (List.range n)
  simpa using this
/-- A search by a queue: what has been seen, what is to do. -/
structure Bfs (ts : List Tm) (S : Nat → Bool) (todo : List Nat) : Prop where
  s : ∀ i, S i = true → i < ts.length ∧ Rc ts 0 i
  t : ∀ i ∈ todo, i < ts.length ∧ Rc ts 0 i
  z : S 0 = true ∨ 0 ∈ todo
  e : ∀ a, S a = true → ∀ b : Nat, (b : Int) ∈ toAt ts a → S b = true ∨ b ∈ todo
def boolsL (n : Nat) (S : Nat → Bool) : List Value := (List.range n).map fun i => .bool (S i)
theorem boolsL_len (n : Nat) (S : Nat → Bool) : (boolsL n S).length = n := by simp [boolsL]
theorem boolsL_get {n i : Nat} {S : Nat → Bool} (h : i < n) : (boolsL n S)[i]? = some (.bool (S i)) := by simp [boolsL, h]
theorem made_bools (n : Nat) : (madeCells #[.bool false] (n * 1)).toList.take (n * 1) = boolsL n fun _ => false := by
  rw [Nat.mul_one, List.take_of_length_le (by simp [madeCells])]
  apply List.ext_getElem?
  intro i
  by_cases h : i < n
  · simp [madeCells, boolsL, h]
    rw [Nat.mod_one]; rfl
  · simp [madeCells, boolsL, h]
/-- Where an end may go, as naturals. -/
def toN (t : Tm) : List Nat := (toL t).map Int.toNat
end Go.Proofs.YtkefmjhagmacfaaGreatDoor

/- A region whose order is drawn, in which an operation may take what another one made, or what was there (tokens), and turn it: one walk serves every order. -/
namespace Go.Proofs.YtkefmjhagmacfaaGreatDoor
set_option linter.unusedVariables false
open Go Go.RowKit

def liveT (tk : Nat → Option Nat) (E : List Nat) : List Nat := E.filter fun c => !(E.any fun k => decide (tk k = some c))
def WkT (C : Ctx) (all : Array Oper) (ex : Nat → Option (Value → List Res → Prop)) (nd : Nat → List Nat) (tk : Nat → Option Nat) (u : Got) (L0 : List Res) : Nat → List Oper → Env → List Nat → (Env → List Nat → Prop) → Prop
  | _, [], σ, E, K => K σ E
  | k, o :: rest, σ, E, K =>
    bif wants all σ o then
      (∀ c ∈ nd k, c ∈ liveT tk E) ∧ okDst C.N o.dst = true ∧
      match ex k with
      | some V => Sp C.P C.w0 C.B o σ (needs u (nd k) L0) (Adds V (needs u ((nd k).filter fun c => !decide (tk k = some c)) L0)) ∧ WkT C all ex nd tk u L0 (k + 1) rest (updO σ o.dst (u k).1) (k :: E) K
      | none => ∃ v, Sd C.P C.w0 C.B o σ (needs u (nd k) L0) v ∧ WkT C all ex nd tk u L0 (k + 1) rest (updO σ o.dst v) E K
    else okDst C.N o.dst = true ∧ WkT C all ex nd tk u L0 (k + 1) rest (updO σ o.dst undef) E K
def StepT (C : Ctx) (all : Array Oper) (ex : Nat → Option (Value → List Res → Prop)) (nd : Nat → List Nat) (tk : Nat → Option Nat) (u : Got) (L0 : List Res) (k : Nat) (o : Oper) (σ : Env) (E : List Nat) (v : Value) : Prop :=
  okDst C.N o.dst = true ∧
  ((wants all σ o = true ∧ (∀ c ∈ nd k, c ∈ liveT tk E) ∧ ((∃ V, ex k = some V ∧ v = (u k).1 ∧ Sp C.P C.w0 C.B o σ (needs u (nd k) L0) (Adds V (needs u ((nd k).filter fun c => !decide (tk k = some c)) L0))) ∨ (ex k = none ∧ Sd C.P C.w0 C.B o σ (needs u (nd k) L0) v))) ∨
   (wants all σ o = false ∧ v = undef))
/-! ### What must be so: a closed test -/
def drawOkT (ops : Array Oper) (m : Nat) (nd : Nat → List Nat) (tk : Nat → Option Nat) (E0 : List Nat) : Bool :=
  let b := bef ops
  drawOk ops m (fun k => (nd k).filter fun c => Nat.blt c 1000) && Nat.ble ops.size 1000 && (E0.eraseDups.length == E0.length) && E0.all (fun c => Nat.ble 1000 c && (tk c).isNone) &&
  (List.range m).all fun k => ((nd k).eraseDups.length == (nd k).length) && (nd k).all (fun c => Nat.blt c 1000 || E0.contains c) &&
    match tk k with
    | none => true
    | some c => (nd k).contains c && !(Nat.beq c k) && (List.range m).all fun j => Nat.beq j k || !(nd j).contains c || (Nat.blt j k && (b.getD k 0).testBit j)
structure OkT (ops : Array Oper) (m : Nat) (nd : Nat → List Nat) (tk : Nat → Option Nat) (E0 : List Nat) : Prop where
  ok : Ok ops m (fun k => (nd k).filter fun c => Nat.blt c 1000)
  big : ops.size ≤ 1000
  e0 : E0.Nodup
  tok : ∀ c ∈ E0, 1000 ≤ c ∧ tk c = none
  nodu : ∀ k, k < m → (nd k).Nodup
  has : ∀ k, k < m → ∀ c ∈ nd k, c < 1000 ∨ c ∈ E0
  tak : ∀ k, k < m → ∀ c, tk k = some c → c ∈ nd k ∧ c ≠ k ∧ ∀ j, j < m → j ≠ k → c ∈ nd j → j < k ∧ Anc ops k j
/-! ### Every order -/
section
variable {C : Ctx} {l : List Oper} {m : Nat} {nd : Nat → List Nat} {tk : Nat → Option Nat} {E0 : List Nat} {ex : Nat → Option (Value → List Res → Prop)} {σ : Env} {L0 : List Res} {K : Env → List Nat → Prop}
structure GoodT (C : Ctx) (l : List Oper) (m : Nat) (ex : Nat → Option (Value → List Res → Prop)) (nd : Nat → List Nat) (tk : Nat → Option Nat) (E0 : List Nat) (L0 : List Res) (σ : Env) (K : Got → Env → List Nat → Prop) (u : Got) (vs : List Value) : Prop where
  len : vs.length = (l.take m).length
  step : ∀ (i : Nat) (o : Oper) (v : Value), (l.take m)[i]? = some o → vs[i]? = some v → StepT C l.toArray ex nd tk u L0 i o (envAt ((l.take m).take i) (vs.take i) σ) (exAt l.toArray ex 0 ((l.take m).take i) (vs.take i) σ E0) v
  fin : K u (envAt (l.take m) vs σ) (exAt l.toArray ex 0 (l.take m) vs σ E0)
structure MidT (C : Ctx) (l : List Oper) (m : Nat) (ex : Nat → Option (Value → List Res → Prop)) (nd : Nat → List Nat) (tk : Nat → Option Nat) (E0 : List Nat) (L0 : List Res) (σ : Env) (K : Got → Env → List Nat → Prop) (listed : Array Bool) (u : Got) (Ex : List Nat) (a : Act) (w : World) : Prop where
  size : a.tmps.size = C.N
  valid : Valid ex u
  nodup : Ex.Nodup
  sub : ∀ c ∈ Ex, (c < m ∧ Ls listed c) ∨ c ∈ E0
  old : ∀ c ∈ E0, c ∈ Ex
  base : ∀ t, (∀ (j : Nat) (o : Oper), j < m → l[j]? = some o → Ls listed j → o.dst ≠ some t) → a.tmps.getD t undef = σ t
  vals : ∀ u', Valid ex u' → (∀ c ∈ Ex, u' c = u c) → ∀ vs, GoodT C l m ex nd tk E0 L0 σ K u' vs → ∀ (j : Nat) (o : Oper) (v : Value), j < m → l[j]? = some o → vs[j]? = some v → Ls listed j →
    (∀ t, o.dst = some t → a.tmps.getD t undef = v) ∧ (j ∈ Ex ↔ j ∈ exAt l.toArray ex 0 (l.take m) vs σ E0)
  heap : Hp C.w0 C.B (hid C a ++ needs u (liveT tk Ex) L0) w
end
/-! ### The walk's steps -/
section
variable {C : Ctx} {all : Array Oper} {ex : Nat → Option (Value → List Res → Prop)} {nd : Nat → List Nat} {tk : Nat → Option Nat} {u : Got} {L0 : List Res} {k : Nat} {rest : List Oper} {σ : Env} {E : List Nat} {K : Env → List Nat → Prop} {op : Op} {d : Option Nat} {ty : TypeId} {pos : String} {af : Array Edge} {gd : Option (Nat × Bool)} {v : Value}
end
end Go.Proofs.YtkefmjhagmacfaaGreatDoor

/- Many rows of numbers of one's own, one behind the other among what is held; arrays told by a function. Over any program. -/
namespace Go.Proofs.YtkefmjhagmacfaaGreatDoor
set_option linter.unusedVariables false
open Go Go.RowKit

/-- Cells told by a function. -/
def rngV (n : Nat) (h : Nat → Value) : Array Value := ((List.range n).map h).toArray
/-- The slices' heads: where they lie, their room. -/
abbrev Heads := Nat → Option Addr × Nat
def headV (H : Heads) (xs : Nat → List Int) (x : Nat) : Value := .slice (H x).1 (xs x).length (H x).2
def rowP (e : Nat) (H : Heads) (xs : Nat → List Int) (x : Nat) : Res := row (headV H xs x) e 1 (xs x).length (ints (xs x))
def rowsP (n e : Nat) (H : Heads) (xs : Nat → List Int) : List Res := (List.range n).map (rowP e H xs)
def restP (n e b : Nat) (H : Heads) (xs : Nat → List Int) : List Res := ((List.range n).eraseIdx b).map (rowP e H xs)
end Go.Proofs.YtkefmjhagmacfaaGreatDoor

/- Plain laws behind ir.Right: whether all that is read has a value. -/
namespace Go.Proofs.YtkefmjhagmacfaaGreatDoor
set_option linter.unusedVariables false
open Go Go.RowKit

def okPast : List RIns → Tm → VS → Bool
  | [], t, s => hasV s (needsL t)
  | i :: l, t, s => hasV s (readsL i) && okPast l t (putV s (defI i).toNat true)
/-- What is in a set behind a block's instructions. -/
def outV (l : List RIns) (s : VS) : VS := l.foldl (fun s i => putV s (defI i).toNat true) s
/-- A way from the first block to the begin of another, on which a variable gets no value. -/
inductive Bare (f : RFun) (v : Nat) : Nat → Prop
  | zero : (∀ p ∈ f.params, p.toNat ≠ v) → Bare f v 0
  | step {a b : Nat} {x : RBlk} : Bare f v a → f.blocks[a]? = some x → (∀ i ∈ x.ins, (defI i).toNat ≠ v) → (b : Int) ∈ toL x.term → Bare f v b
open Classical in
noncomputable def valuedF (f : RFun) : Bool := decide (∀ (b : Nat) (x : RBlk) (v : Int), f.blocks[b]? = some x → exposed x.ins x.term v = true → ¬ Bare f v.toNat b)
abbrev IV := Nat → VS
def setI (I : IV) (b : Nat) (s : VS) : IV := fun x => if x = b then s else I x
structure Val (f : RFun) (I : IV) : Prop where
  z : ∀ v, v < 201 → (I 0 v = true ↔ ∃ p ∈ f.params, p.toNat = v)
  b : ∀ b v, v < 201 → I b v = false → Bare f v b
/-- Nothing is turned by a block's edge. -/
def Stab (I : IV) (out : VS) (to : Nat) : Prop := ∀ v, v < 201 → I to v = true → out v = true
/-! ### How much is left -/
def muI (n : Nat) (I : IV) : Nat := ((List.range n).map fun b => cntB 201 (I b)).sum
/-! ### How they lie -/
def sameV (s t : VS) : Bool := (List.range 201).all fun v => s v == t v
def inA (n : Nat) (I : IV) : Array Value := rngV (n * 201) fun q => .bool (I (q / 201) (q % 201))
end Go.Proofs.YtkefmjhagmacfaaGreatDoor

/- The package flow: edges, walked. -/
namespace Go.Proofs.YtkefmjhagmacfaaGreatDoor
set_option linter.unusedVariables false
open Go Go.RowKit
set_option maxRecDepth 100000

theorem RBlk.one (b : RBlk) : ∀ u ∈ b.cells, u.oneCell' = true := by
  intro u hu
  simp only [RBlk.cells, Tm.cells, List.mem_cons, List.not_mem_nil, or_false] at hu
  rcases hu with rfl | rfl | rfl | rfl | rfl <;> rfl
theorem Ed.one (e : Ed) : ∀ u ∈ e.cells, u.oneCell' = true := by
  intro u hu
  simp only [Ed.cells, List.mem_cons, List.not_mem_nil, or_false] at hu
  rcases hu with rfl | rfl | rfl <;> rfl
theorem Ed.one1 (e : Ed) : ∀ u ∈ [e.val].flatMap (fun v => v.cells.toList), u.oneCell' = true := by
  intro u hu
  have hu : u ∈ e.cells := by simpa [Ed.val, Value.cells] using hu
  exact e.one u hu
def ysE (ts : List Tm) : List (List Value) := (edges ts).map fun e => [e.val]
theorem ysE_get {ts : List Tm} {k : Nat} {vs : List Value} (h : (ysE ts)[k]? = some vs) : ∃ e, (edges ts)[k]? = some e ∧ vs = [e.val] ∧ k < (edges ts).length := by
  unfold ysE at h
  rw [List.getElem?_map] at h
  cases hn : (edges ts)[k]? with
  | none => rw [hn] at h; cases h
  | some e => rw [hn] at h; cases h; exact ⟨e, rfl, rfl, (List.getElem?_eq_some_iff.1 hn).1⟩
theorem ysE_len (ts : List Tm) : (ysE ts).length = (edges ts).length := by simp [ysE]
theorem ysE_one {ts : List Tm} : ∀ vs ∈ ysE ts, vs.length = 1 := by
  intro vs hvs
  unfold ysE at hvs
  rw [List.mem_map] at hvs
  obtain ⟨e, _, rfl⟩ := hvs
  rfl
section
def FEachV (g : Nat) : Value := .func (.func 81) #[] #[.pointer (some ⟨g, 0, none⟩)]
theorem flow_each_ct {w : World} {f : RFun} : Ct Tryz.prog 50 #[f.val] w (fun v L => ∃ g, v = FEachV g ∧ L = [blk g (.cells f.cells.toArray 25)]) := by
  refine Ct.mk Tryz.func50 rfl rfl ?_
  refine Cd.seq ?_
  refine Cd.region ?_
  refine Ol.x bxg ?_
  rintro _ _ ⟨g1, rfl, rfl⟩
  refine Ol.p (as_ rfl) ?_
  refine Ol.nil ?_
  refine Cd.seq ?_
  refine Cd.region ?_
  refine Ol.p mkf ?_
  refine Ol.p asf ?_
  refine Ol.nil ?_
  refine Cd.ret ⟨_, ret1 rfl rfl, _, .all, g1, rfl, rfl⟩
set_option maxHeartbeats 1000000 in
theorem flow_each_1_it {w0 : World} {B g : Nat} {f : RFun} (hf : FunAt w0 B f) (hfit : Fit f) : It Tryz.prog w0 B 81 #[.pointer (some ⟨g, 0, none⟩)] [blk g (.cells f.cells.toArray 25)] (ysE f.terms) := by
  intro y J Jx L0 hY h0
  have hbl := hfit.blen
  have htl : f.terms.length = f.blocks.length := by simp [RFun.terms]
  refine Cm.mk Tryz.func81 rfl rfl fun M => ?_
  have hret : ∀ {e : Exit} {σ : Env} {Lj D : List Res}, (e = .ret ∨ e = .normal) → (J (ysE f.terms).length Lj ∨ ∃ k, Jx k Lj) → Out ⟨Tryz.prog, 33, none, w0, B, M⟩ Tryz.f81 (fun _ L => ∃ Own' Lj, L = Own' ++ Lj ∧ (J (ysE f.terms).length Lj ∨ ∃ k, Jx k Lj)) e σ (D ++ Lj) := fun {e σ Lj D} he h => by
    rcases he with rfl | rfl <;> exact ⟨_, ret0 rfl, _, .all, D, Lj, rfl, h⟩
  refine Cd.seq ?_
  refine Cd.region ?_
  refine Ol.p (fdl fd_api_Func_1) ?_
  refine Ol.p (ld one_L_api_Block (Rd.blk (i := 0) rfl rfl)) ?_
  refine Ol.p (lens sl_L_api_Block) ?_
  refine Ol.p mvi ?_
  refine Ol.nil ?_
  refine Cd.block ?_
  refine Cd.loop (fun m σ L => ∃ k Lj, m = f.blocks.length - k ∧ k ≤ f.blocks.length ∧ Has σ [(0, .func (.yield y) #[] #[]), (8, .slice f.bA f.blocks.length f.bC), (9, .int .i64 f.blocks.length), (10, .int .i64 k)] ∧ L = blk g (.cells f.cells.toArray 25) :: Lj ∧ J (edgesTo f.terms k).length Lj) (n := f.blocks.length) ⟨0, L0, rfl, Nat.zero_le _, ⟨rfl, rfl, rfl, rfl, trivial⟩, rfl, h0⟩ ?_
  rintro _ σ L ⟨k, Lj, rfl, hk, hs, rfl, hJ⟩
  refine Cd.has hs ?_
  refine Cd.seq ?_
  refine Cd.region ?_
  refine Ol.p lsi ?_
  refine Ol.nil ?_
  refine Cd.seq ?_
  refine Cd.cond rfl (fun h => ?_) (fun h => ?_)
  · have hlt : k < f.blocks.length := by simpa using h
    obtain ⟨b, hb⟩ : ∃ b, f.blocks[k]? = some b := ⟨_, List.getElem?_eq_getElem hlt⟩
    have ht : f.terms[k]? = some b.term := by simp [RFun.terms, hb]
    refine Cd.skip ?_
    refine Cd.mid (fun σ' L' => ∃ Lj', Has σ' [(0, .func (.yield y) #[] #[]), (8, .slice f.bA f.blocks.length f.bC), (9, .int .i64 f.blocks.length), (10, .int .i64 k)] ∧ L' = blk g (.cells f.cells.toArray 25) :: Lj' ∧ J (edgesTo f.terms (k + 1)).length Lj') ?_ ?_
    · refine Cd.block ?_
      refine Cd.seq ?_
      refine Cd.region ?_
      refine Ol.p mvi ?_
      refine Ol.p (ixn sl_L_api_Block (Som.slc hf.blocks (by omega))) ?_
      refine Ol.p (lds ag_api_Block hf.blocks b.len (fun j u hu => by rw [hf.cell hb (List.getElem?_eq_some_iff.1 hu).1]; exact hu)) ?_
      refine Ol.x (alc zr_api_Block) ?_
      rintro _ _ ⟨g4, rfl, rfl⟩
      refine Ol.p asi ?_
      refine Ol.s (stw sz_api_Block rfl b.one (i := 0) rfl rfl) ?_
      refine Ol.nil ?_
      refine Cd.seq ?_
      refine Cd.region ?_
      refine Ol.p (fdl fd_api_Block_1) ?_
      refine Ol.p (ldp (k := 0 + 1) (vs := b.term.cells.toArray) ag_api_Term (i := 0) rfl rfl (fun j u hu => by rw [Nat.zero_add, Nat.add_comm]; simpa [RBlk.cells] using hu)) ?_
      refine Ol.x (sp_call en_ir_To (fun M' w' hh => ir_To_ct (t := b.term))) ?_
      rintro _ _ ⟨_, rfl, A, c, rfl, rfl⟩
      refine Ol.p (lens sl_L_int) ?_
      refine Ol.p mvi ?_
      refine Ol.nil ?_
      obtain ⟨to, hto⟩ : ∃ to, to = toL b.term := ⟨_, rfl⟩
      have htoL := toL_len b.term
      rw [← hto] at htoL ⊢
      refine Cd.block ?_
      refine Cd.loop (fun m σ L => ∃ j Lj, m = to.length - j ∧ j ≤ to.length ∧ Has σ [(0, .func (.yield y) #[] #[]), (3, .int .i64 k), (8, .slice f.bA f.blocks.length f.bC), (9, .int .i64 f.blocks.length), (10, .int .i64 k), (17, .slice A to.length c), (18, .int .i64 to.length), (19, .int .i64 j)] ∧ L = [row (.slice A to.length c) 3 1 to.length (ints to), blk g4 (.cells b.cells.toArray 49), blk g (.cells f.cells.toArray 25)] ++ Lj ∧ J ((edgesTo f.terms k).length + j) Lj) (n := to.length) ⟨0, Lj, rfl, Nat.zero_le _, ⟨rfl, rfl, rfl, rfl, rfl, rfl, rfl, rfl, trivial⟩, rfl, hJ⟩ ?_
      rintro _ σ L ⟨j, Lj, rfl, hj, hs, rfl, hJ⟩
      refine Cd.has hs ?_
      refine Cd.seq ?_
      refine Cd.region ?_
      refine Ol.p lsi ?_
      refine Ol.nil ?_
      refine Cd.seq ?_
      refine Cd.cond rfl (fun h => ?_) (fun h => ?_)
      · have hjl : j < to.length := by simpa using h
        have hget := ints_get hjl
        have hy1 : (ysE f.terms)[(edgesTo f.terms k).length + j]? = some [.agg #[.int .i64 k, .int .i64 j, .int .i64 to[j]]] := by
          unfold ysE
          rw [List.getElem?_map, edges_get ht (by rw [← hto]; exact List.getElem?_eq_getElem hjl)]
          rfl
        refine Cd.skip ?_
        refine Cd.seq ?_
        refine Cd.block ?_
        refine Cd.seq ?_
        refine Cd.region ?_
        refine Ol.p mvi ?_
        refine Ol.p (ixn1 sl_L_int (Som.row (i := 0) rfl (by omega))) ?_
        refine Ol.p (ld one_int (Rd.row (i := 0) rfl hget)) ?_
        refine Ol.p asi ?_
        refine Ol.p asi ?_
        refine Ol.nil ?_
        refine Cd.seq ?_
        refine Cd.region ?_
        refine Ol.p mvf ?_
        refine Ol.p mvi ?_
        refine Ol.p mvi ?_
        refine Ol.p mvi ?_
        refine Ol.p (bds bs_api_Edge zr_api_Edge) ?_
        refine Ol.x (sp_yield (Own := [row (.slice A to.length c) 3 1 to.length (ints to), blk g4 (.cells b.cells.toArray 49), blk g (.cells f.cells.toArray 25)]) hY hy1 hJ) ?_
        rintro _ _ ⟨bb, Lj', rfl, rfl, ht', hf'⟩
        refine Ol.p noti ?_
        refine Ol.nil ?_
        refine Cd.cond rfl (fun hb => ?_) (fun hb => ?_)
        · have hb' : bb = false := by simpa using hb
          exact Cd.ret (hret (.inl rfl) (.inr ⟨_, hf' hb'⟩))
        · have hb' : bb = true := by simpa using hb
          refine Cd.skip ?_
          refine Cd.region ?_
          refine Ol.p addi ?_
          refine Ol.p mvi ?_
          refine Ol.nil ?_
          exact ⟨to.length - (j + 1), by omega, j + 1, Lj', rfl, by omega, ⟨rfl, rfl, rfl, rfl, rfl, rfl, rfl, rfl, trivial⟩, rfl, ht' hb'⟩
      · have hge : j = to.length := by
          have : ¬ (j : Int) < to.length := by simpa using h
          omega
        refine Cd.keep (L' := blk g (.cells f.cells.toArray 25) :: Lj) (.sub (.cons _ (.cons _ (List.Sublist.refl _)))) ?_
        refine Cd.exit (id := 2) ⟨Lj, ⟨rfl, rfl, rfl, rfl, trivial⟩, rfl, ?_⟩
        rw [edgesTo_succ ht, List.length_append, edgesB_len, ← hto, ← hge]
        exact hJ
    · rintro σ' _ ⟨Lj', hs', rfl, hJ'⟩
      refine Cd.has hs' ?_
      refine Cd.region ?_
      refine Ol.p addi ?_
      refine Ol.p mvi ?_
      refine Ol.nil ?_
      exact ⟨f.blocks.length - (k + 1), by omega, k + 1, Lj', rfl, by omega, ⟨rfl, rfl, rfl, rfl, trivial⟩, rfl, hJ'⟩
  · have hge : k = f.blocks.length := by
      have : ¬ (k : Int) < f.blocks.length := by simpa using h
      omega
    subst hge
    refine Cd.exit (id := 0) ?_
    refine hret (D := [_]) (.inr rfl) (.inl ?_)
    rw [ysE_len]
    unfold edges
    rw [htl]
    exact hJ
end
section
def okE (n : Nat) (e : Ed) : Bool := decide (0 ≤ e.to) && decide (e.to < (n : Int))
theorem uint_ge {a : Int} {n : Nat} (h : -9223372036854775808 ≤ a ∧ a ≤ 9223372036854775807) (hn : n < 2 ^ 50) : decide (IntKind.u64.wrap (n : Int) ≤ IntKind.u64.wrap a) = !(decide (0 ≤ a) && decide (a < (n : Int))) := by
  rw [wrapU, wrapU]
  by_cases h1 : 0 ≤ a <;> by_cases h2 : a < (n : Int) <;> simp [h1, h2] <;> omega
theorem edge_i64 {f : RFun} (hfit : Fit f) {e : Ed} (he : e ∈ edges f.terms) : (-9223372036854775808 ≤ e.to ∧ e.to ≤ 9223372036854775807) ∧ (0 ≤ e.src ∧ e.src < (f.blocks.length : Int)) ∧ (0 ≤ e.arm ∧ e.arm < 2) := by
  obtain ⟨k, j, t, hk, hj, h1, h2⟩ := mem_edges.1 he
  have hkl := (List.getElem?_eq_some_iff.1 hk).1
  unfold RFun.terms at hk hkl
  rw [List.getElem?_map] at hk
  cases hb : f.blocks[k]? with
  | none => rw [hb] at hk; cases hk
  | some b =>
    rw [hb] at hk
    cases hk
    have hbm := List.mem_of_getElem? hb
    have hjl := (List.getElem?_eq_some_iff.1 hj).1
    have hlen := toL_len b.term
    refine ⟨?_, ⟨by omega, by simp at hkl; omega⟩, by omega, by omega⟩
    rcases toL_mem (List.mem_of_getElem? hj) with e | e
    · exact hfit.term b hbm _ (by simp [e])
    · exact hfit.term b hbm _ (by simp [e])
set_option maxHeartbeats 1000000 in
theorem flow_Closed_ct {w : World} {f : RFun} (hf : FunAt w w.heap.size f) (hfit : Fit f) : Ct Tryz.prog 11 #[f.val] w (Is (.bool (closed f.terms))) := by
  have hbl := hfit.blen
  have htl : f.terms.length = f.blocks.length := by simp [RFun.terms]
  refine Ct.mk Tryz.func11 rfl rfl ?_
  refine Cd.seq ?_
  refine Cd.region ?_
  refine Ol.x bxg ?_
  rintro _ _ ⟨g1, rfl, rfl⟩
  refine Ol.x (alc zr_bool) ?_
  rintro _ _ ⟨g2, rfl, rfl⟩
  refine Ol.nil ?_
  refine Cd.seq ?_
  refine Cd.seq ?_
  refine Cd.region ?_
  refine Ol.p (ldw ag_api_Func (i := 1) rfl rfl) ?_
  refine Ol.x (sp_call en_flow_each (fun M w' hh => flow_each_ct (f := f))) ?_
  rintro _ _ ⟨_, rfl, gE, rfl, rfl⟩
  refine Ol.nil ?_
  refine Cd.block ?_
  refine Cd.rf (Own := [blk gE (.cells f.cells.toArray 25)]) (L0 := [blk g2 (.cells #[.bool false] 4), blk g1 (.cells f.cells.toArray 25)])
    (fun k L => L = [blk g2 (.cells #[.bool false] 4), blk g1 (.cells f.cells.toArray 25)] ∧ ∀ i e, i < k → (edges f.terms)[i]? = some e → okE f.blocks.length e = true)
    (fun _ c L => c = .ret ∧ L = [blk g2 (.cells #[.bool false] 4), blk g1 (.cells f.cells.toArray 25)] ∧ closed f.terms = false) (fun _ h => by cases h) en_flow_each_1 (flow_each_1_it hf hfit) (.refl _) ⟨rfl, fun i e h => by omega⟩ ysE_one rfl ?_ ?_ ?_
  · rintro l H k vs Lj hk ⟨rfl, hok⟩
    obtain ⟨e, he, rfl, hlt⟩ := ysE_get hk
    have hem := List.mem_of_getElem? he
    have hei := edge_i64 hfit hem
    refine Cd.region ?_
    refine Ol.x (alc zr_api_Edge) ?_
    rintro _ _ ⟨g3, rfl, rfl⟩
    refine Ol.s (stw sz_api_Edge rfl e.one (i := 0) rfl rfl) ?_
    refine Ol.nil ?_
    intro H' r hr
    refine Cd.block ?_
    refine Cd.seq ?_
    refine Cd.region ?_
    refine Ol.p (fdl fd_api_Edge_2) ?_
    refine Ol.p (ld one_int (Rd.blk (i := 0) rfl rfl)) ?_
    refine Ol.p (cvw in_int in_uint) ?_
    refine Ol.p (fdl fd_api_Func_1) ?_
    refine Ol.p (ld one_L_api_Block (Rd.blk (i := 2) rfl rfl)) ?_
    refine Ol.p (lens sl_L_api_Block) ?_
    refine Ol.p (cvw in_int in_uint) ?_
    refine Ol.p gei ?_
    refine Ol.nil ?_
    refine Cd.cond rfl (fun h => ?_) (fun h => ?_)
    · rw [uint_ge hei.1 hbl] at h
      refine Cd.seq ?_
      refine Cd.region ?_
      refine Ol.s (stv sz_bool (i := 1) rfl rfl) ?_
      refine Ol.keep (.sub (.cons _ (List.Sublist.refl _))) ?_
      refine Ol.nil ?_
      refine Cd.ret ⟨rfl, rfl, ?_⟩
      unfold closed
      have : (edges f.terms).all (fun e => decide (0 ≤ e.to) && decide (e.to < (f.terms.length : Int))) = false := by
        rw [List.all_eq_false]
        refine ⟨e, hem, ?_⟩
        rw [htl]
        simp at h ⊢
        omega
      rw [this]; rfl
    · rw [uint_ge hei.1 hbl] at h
      refine Cd.keep (L' := [blk g2 (.cells #[.bool false] 4), blk g1 (.cells f.cells.toArray 25)]) (.sub (.cons _ (List.Sublist.refl _))) ?_
      refine Cd.skip ⟨rfl, ?_⟩
      intro i e' hi he'
      rcases Nat.lt_or_ge i k with h3 | h3
      · exact hok i e' h3 he'
      · have : i = k := by omega
        subst this
        rw [he] at he'
        cases he'
        unfold okE
        simp at h ⊢
        omega
  · rintro L' ⟨rfl, hok⟩
    have hall : (edges f.terms).all (fun e => decide (0 ≤ e.to) && decide (e.to < (f.terms.length : Int))) = true := by
      rw [List.all_eq_true]
      intro e he
      obtain ⟨i, hi, rfl⟩ := List.getElem_of_mem he
      have := hok i _ (by rw [ysE_len]; exact hi) (List.getElem?_eq_getElem hi)
      rw [htl]; exact this
    refine Cd.seq ?_
    cases h4 : decide ((0 : Int) < (f.blocks.length : Int)) with
    | true =>
      refine Cd.region ?_
      refine Ol.p (fdl fd_api_Func_1) ?_
      refine Ol.p (ld one_L_api_Block (Rd.blk (i := 1) rfl rfl)) ?_
      refine Ol.p (lens sl_L_api_Block) ?_
      refine Ol.p gti ?_
      refine Ol.p mvb ?_
      refine Ol.gp h4 (fdl fd_api_Func_1) ?_
      refine Ol.gp h4 (ld one_L_api_Block (Rd.blk (i := 1) rfl rfl)) ?_
      refine Ol.gp h4 (lens sl_L_api_Block) ?_
      refine Ol.gp h4 lei ?_
      refine Ol.p (pkTb h4) ?_
      refine Ol.s (stv sz_bool (i := 0) rfl rfl) ?_
      refine Ol.nil ?_
      refine Cd.ret ⟨.bool _, retv rfl one_bool rfl (i := 0) rfl rfl, [], .nil, ?_, rfl⟩
      have h4' : 0 < f.blocks.length := by simpa using h4
      unfold closed
      rw [hall, htl]
      simp [h4']
      omega
    | false =>
      refine Cd.region ?_
      refine Ol.p (fdl fd_api_Func_1) ?_
      refine Ol.p (ld one_L_api_Block (Rd.blk (i := 1) rfl rfl)) ?_
      refine Ol.p (lens sl_L_api_Block) ?_
      refine Ol.p gti ?_
      refine Ol.p mvb ?_
      refine Ol.gn h4 ?_
      refine Ol.gn h4 ?_
      refine Ol.gn h4 ?_
      refine Ol.gn h4 ?_
      refine Ol.p (pkFb h4) ?_
      refine Ol.s (stv sz_bool (i := 0) rfl rfl) ?_
      refine Ol.nil ?_
      refine Cd.ret ⟨.bool _, retv rfl one_bool rfl (i := 0) rfl rfl, [], .nil, ?_, rfl⟩
      have h4' : f.blocks.length = 0 := by simpa using h4
      unfold closed
      rw [htl, h4']
      simp
  · rintro k c L' ⟨rfl, rfl, hcl⟩
    refine Cd.ret ⟨.bool _, retv rfl one_bool rfl (i := 0) rfl rfl, [], .nil, ?_, rfl⟩
    rw [hcl]
end
/-- A function value that tells whether something is so of edges. -/
def TellsE (P : Program) (w : World) (g : FuncId) (fst cap : Array Value) (ts : List Tm) (p : Ed → Bool) : Prop := Ent P g ∧ ∀ e ∈ edges ts, ∀ w', Below w.heap.size w w' → Ct P g (fst ++ #[e.val] ++ cap) w' (Is (.bool (p e)))
theorem filter_snoc {ts : List Tm} {p : Ed → Bool} {k : Nat} {e : Ed} (h : (edges ts)[k]? = some e) : ((edges ts).take (k + 1)).filter p = ((edges ts).take k).filter p ++ (if p e = true then [e] else []) := by
  rw [take_snoc_ h, List.filter_append]
  congr 1
  by_cases hp : p e = true <;> simp [hp]
theorem edV_app (a b : List Ed) : edV (a ++ b) = edV a ++ edV b := by simp [edV]
theorem closed_len {ts : List Tm} (h : closed ts = true) : 0 < ts.length ∧ ts.length ≤ 200 ∧ ∀ e ∈ edges ts, 0 ≤ e.to ∧ e.to < (ts.length : Int) := by
  unfold closed at h
  simp only [Bool.and_eq_true, decide_eq_true_eq, List.all_eq_true] at h
  exact ⟨h.1.2, h.2, fun e he => h.1.1 e he⟩
section
set_option maxHeartbeats 1000000 in
theorem flow_some_ct {w : World} {f : RFun} {g : FuncId} {fst cap : Array Value} {p : Ed → Bool} (hf : FunAt w w.heap.size f) (hfit : Fit f) (hp : TellsE Tryz.prog w g fst cap f.terms p) :
    Ct Tryz.prog 52 #[f.val, .func (.func g) fst cap] w (NewL 58 3 (someE f.terms p).length (edV (someE f.terms p))) := by
  have hbl := hfit.blen
  have htl : f.terms.length = f.blocks.length := by simp [RFun.terms]
  refine Ct.mk Tryz.func52 rfl rfl ?_
  refine Cd.seq ?_
  refine Cd.region ?_
  refine Ol.x bxg ?_
  rintro _ _ ⟨g2, rfl, rfl⟩
  refine Ol.x bxf ?_
  rintro _ _ ⟨g3, rfl, rfl⟩
  refine Ol.x (alc zr_L_api_Edge) ?_
  rintro _ _ ⟨g4, rfl, rfl⟩
  refine Ol.nil ?_
  refine Cd.seq ?_
  refine Cd.seq ?_
  refine Cd.region ?_
  refine Ol.p (ldw ag_api_Func (i := 2) rfl rfl) ?_
  refine Ol.s (cl en_flow_Closed (fun M w' hh => flow_Closed_ct (hf.now hh) hfit)) ?_
  refine Ol.p noti ?_
  refine Ol.nil ?_
  refine Cd.cond rfl (fun h => ?_) (fun h => ?_)
  · have hcl : closed f.terms = false := by simpa using h
    refine Cd.seq ?_
    refine Cd.region ?_
    refine Ol.s (stv sz_L_api_Edge (i := 0) rfl rfl) ?_
    refine Ol.nil ?_
    have e : someE f.terms p = [] := by unfold someE; rw [hcl]; rfl
    rw [e]
    refine Cd.nr 58 3 ?_
    refine Cd.ret ⟨.slice none 0 0, retv rfl one_L_api_Edge rfl (i := 1) rfl rfl, _, .sub (.cons_cons _ (.cons _ (.cons _ (.cons _ .slnil)))), none, 0, rfl, rfl⟩
  · have hcl : closed f.terms = true := by simpa using h
    obtain ⟨hpos, hmax, _⟩ := closed_len hcl
    have hel := edgesTo_len_le f.terms f.terms.length
    have e : someE f.terms p = (edges f.terms).filter p := by unfold someE; rw [hcl]; rfl
    rw [e]
    refine Cd.skip ?_
    refine Cd.seq ?_
    refine Cd.seq ?_
    refine Cd.region ?_
    refine Ol.p (ldw ag_api_Func (i := 2) rfl rfl) ?_
    refine Ol.x (sp_call en_flow_each (fun M w' hh => flow_each_ct (f := f))) ?_
    rintro _ _ ⟨_, rfl, gE, rfl, rfl⟩
    refine Ol.nil ?_
    refine Cd.block ?_
    refine Cd.nr 58 3 ?_
    refine Cd.rf (Own := [blk gE (.cells f.cells.toArray 25)]) (L0 := [row (.slice none 0 0) 58 3 0 [], blk g4 (.cells #[.slice none 0 0] 32), blk g3 (.cells #[.func (.func g) fst cap] 66), blk g2 (.cells f.cells.toArray 25)])
      (fun k L => ∃ A c n, n = (((edges f.terms).take k).filter p).length ∧ L = [row (.slice A n c) 58 3 n (edV (((edges f.terms).take k).filter p)), blk g4 (.cells #[.slice A n c] 32), blk g3 (.cells #[.func (.func g) fst cap] 66), blk g2 (.cells f.cells.toArray 25)])
      (fun _ _ _ => False) (fun _ h => by cases h) en_flow_each_1 (flow_each_1_it hf hfit) (.swap _ _ _) ⟨none, 0, 0, rfl, rfl⟩ ysE_one rfl ?_ ?_ (fun _ _ _ h => h.elim)
    · rintro l H k vs Lj hk ⟨A, c, n, hn, rfl⟩
      obtain ⟨e, he, rfl, hlt⟩ := ysE_get hk
      have hem := List.mem_of_getElem? he
      have hnk : n ≤ k := by rw [hn]; exact Nat.le_trans (List.length_filter_le _ _) (by simp; omega)
      have hlt2 : k < 400 := by unfold edges at hlt; omega
      refine Cd.region ?_
      refine Ol.x (alc zr_api_Edge) ?_
      rintro _ _ ⟨g5, rfl, rfl⟩
      refine Ol.s (stw sz_api_Edge rfl e.one (i := 0) rfl rfl) ?_
      refine Ol.nil ?_
      intro H' r hr
      refine Cd.block ?_
      refine Cd.seq ?_
      refine Cd.region ?_
      refine Ol.p (ldv one_func_api_Edge_bool (i := 3) rfl) ?_
      refine Ol.p (ldw ag_api_Edge (i := 0) rfl rfl) ?_
      refine Ol.x (sp_callv hp.1 (fun M w' hh => hp.2 e hem w' hh.below)) ?_
      rintro _ _ ⟨_, rfl, rfl, rfl⟩
      refine Ol.nil ?_
      refine Cd.cond rfl (fun h => ?_) (fun h => ?_)
      · skip
        refine Cd.region ?_
        refine Ol.p (ldv one_L_api_Edge (i := 2) rfl) ?_
        refine Ol.p (ldw ag_api_Edge (i := 0) rfl rfl) ?_
        refine Ol.x (bsn [e.val] sl_L_api_Edge zr_api_Edge (by intro v hv; cases hv with | head => rfl | tail _ h => cases h) rfl (by decide) (by decide)) ?_
        rintro _ _ ⟨g17, rfl, rfl⟩
        refine Ol.x (apn (i := 2) (m := 1) sl_L_api_Edge zr_api_Edge rfl (by decide) rfl (Src.row (i := 0) rfl rfl) e.one1 (by unfold maxLen; omega) (by omega)) ?_
        rintro _ _ ⟨A', c', rfl, rfl⟩
        refine Ol.s (stv sz_L_api_Edge (i := 3) rfl rfl) ?_
        refine Ol.keep (.sub (.cons _ (.cons _ (List.Sublist.refl _)))) ?_
        refine Ol.nil ?_
        refine ⟨A', c', n + 1, ?_, ?_⟩
        · rw [filter_snoc he, if_pos h, List.length_append, ← hn]; rfl
        · rw [filter_snoc he, if_pos h, edV_app]
          rfl
      · refine Cd.keep (.sub (.cons _ (List.Sublist.refl _))) ?_
        refine Cd.skip ⟨A, c, n, ?_, ?_⟩
        · rw [filter_snoc he, if_neg (by rw [h]; simp), List.append_nil]; exact hn
        · rw [filter_snoc he, if_neg (by rw [h]; simp), List.append_nil]
    · rintro L' ⟨A, c, n, hn, rfl⟩
      rw [ysE_len, List.take_length] at hn ⊢
      subst hn
      refine Cd.seq ?_
      refine Cd.region ?_
      refine Ol.p (ldv one_L_api_Edge (i := 1) rfl) ?_
      refine Ol.s (stv sz_L_api_Edge (i := 1) rfl rfl) ?_
      refine Ol.nil ?_
      refine Cd.ret ⟨.slice _ _ _, retv rfl one_L_api_Edge rfl (i := 1) rfl rfl, _, .sub (.cons_cons _ (.cons _ (.cons _ (.cons _ .slnil)))), A, c, rfl, rfl⟩
end
section
theorem flow_Edges_1_ct {w : World} {e : Ed} : Ct Tryz.prog 53 #[e.val] w (Is (.bool true)) := by
  refine Ct.mk Tryz.func53 rfl rfl ?_
  refine Cd.seq ?_
  refine Cd.region ?_
  refine Ol.x bxg ?_
  rintro _ _ ⟨g1, rfl, rfl⟩
  refine Ol.p asb ?_
  refine Ol.nil ?_
  refine Cd.seq ?_
  refine Cd.region ?_
  refine Ol.p asb ?_
  refine Ol.nil ?_
  refine Cd.ret ⟨.bool _, ret1 rfl rfl, [], .nil, rfl, rfl⟩
theorem flow_Edges_ct {w : World} {f : RFun} (hf : FunAt w w.heap.size f) (hfit : Fit f) : Ct Tryz.prog 14 #[f.val] w (NewL 58 3 (someE f.terms fun _ => true).length (edV (someE f.terms fun _ => true))) := by
  refine Ct.mk Tryz.func14 rfl rfl ?_
  refine Cd.seq ?_
  refine Cd.region ?_
  refine Ol.x bxg ?_
  rintro _ _ ⟨g1, rfl, rfl⟩
  refine Ol.p ass ?_
  refine Ol.nil ?_
  refine Cd.seq ?_
  refine Cd.region ?_
  refine Ol.p (ldw ag_api_Func (i := 0) rfl rfl) ?_
  refine Ol.x (sp_call en_flow_some (fun M w' hh => flow_some_ct (g := 53) (fst := #[]) (cap := #[]) (p := fun _ => true) (hf.now hh) hfit ⟨en_flow_Edges_1, fun e he w2 h2 => flow_Edges_1_ct⟩)) ?_
  rintro _ _ ⟨_, rfl, A, c, rfl, rfl⟩
  refine Ol.p ass ?_
  refine Ol.nil ?_
  refine Cd.ret ⟨.slice _ _ _, ret1 rfl rfl, _, .sub (.cons_cons _ (.cons _ .slnil)), A, c, rfl, rfl⟩
end
end Go.Proofs.YtkefmjhagmacfaaGreatDoor

/- The package ir: what is behind a block; long, whole functions: walked. -/
namespace Go.Proofs.YtkefmjhagmacfaaGreatDoor
set_option linter.unusedVariables false
open Go Go.RowKit
set_option maxRecDepth 100000

/-- A function value that tells whether something is so of what a list holds. -/
def TellsG {α : Type} (P : Program) (w : World) (g : FuncId) (fst cap : Array Value) (l : List α) (v : α → Value) (p : α → Bool) : Prop := Ent P g ∧ ∀ x ∈ l, ∀ w', Below w.heap.size w w' → Ct P g (fst ++ #[v x] ++ cap) w' (Is (.bool (p x)))
theorem blk_cell {l : List RBlk} {k j : Nat} {b : RBlk} {u : Value} (hk : l[k]? = some b) (hu : b.cells[j]? = some u) : (l.flatMap RBlk.cells)[k * 5 + j]? = some u := by
  rw [flat_get RBlk.len _ _ _ _ hk (by have := (List.getElem?_eq_some_iff.1 hu).1; rw [RBlk.len] at this; exact this)]; exact hu
end Go.Proofs.YtkefmjhagmacfaaGreatDoor

/- The document's answer of layer 03: instructions, what they read, functions' shape, walked. -/
namespace Go.Proofs.YtkefmjhagmacfaaGreatDoor
set_option linter.unusedVariables false
set_option linter.unusedSimpArgs false
open Go Go.RowKit
set_option maxRecDepth 100000

end Go.Proofs.YtkefmjhagmacfaaGreatDoor

/- The package ir: whole functions, walked. -/
namespace Go.Proofs.YtkefmjhagmacfaaGreatDoor
set_option linter.unusedVariables false
open Go Go.RowKit
set_option maxRecDepth 100000

theorem ints_at {l : List Int} {k : Nat} {n : Int} (h : l[k]? = some n) : (ints l)[k]? = some (.int .i64 n) := by simp [ints, h]
def seenV (l : List Int) : VS := fun j => decide ((j : Int) ∈ l)
end Go.Proofs.YtkefmjhagmacfaaGreatDoor

/- A slice that starts somewhere in a block of one's own, and grows at its end: append. Over any program. -/
namespace Go.Proofs.YtkefmjhagmacfaaGreatDoor
set_option linter.unusedVariables false
open Go Go.RowKit

def Queue (i e n : Nat) (xs : List Value) (L : List Res) : Value → List Res → Prop := fun v L' => ∃ g off c cs, v = .slice (some ⟨g, off, none⟩) n c ∧ L' = L.set i (blk g (.cells cs e)) ∧ off + c ≤ cs.size ∧ n ≤ c ∧ ∀ j u, xs[j]? = some u → cs[off + j]? = some u
section
variable {P : Program} {w0 : World} {B : Nat} {σ : Env} {L : List Res} {d : Option Nat} {ty T : TypeId} {pos : String} {af : Array Edge} {gd : Option (Nat × Bool)} {x y : Operand}
end
end Go.Proofs.YtkefmjhagmacfaaGreatDoor

/- The package ir: which blocks are reached, walked. -/
namespace Go.Proofs.YtkefmjhagmacfaaGreatDoor
set_option linter.unusedVariables false
open Go Go.RowKit
set_option maxRecDepth 100000

end Go.Proofs.YtkefmjhagmacfaaGreatDoor

/- The package ir: whether all that is read has a value; whether a function is right: walked. -/
namespace Go.Proofs.YtkefmjhagmacfaaGreatDoor
set_option linter.unusedVariables false
open Go Go.RowKit
set_option maxRecDepth 100000

end Go.Proofs.YtkefmjhagmacfaaGreatDoor

/- The package ir: whether a function is right, walked. -/
namespace Go.Proofs.YtkefmjhagmacfaaGreatDoor
set_option linter.unusedVariables false
open Go Go.RowKit
set_option maxRecDepth 100000

noncomputable def rightF (f : RFun) : Int := bif longF f then 3 else bif !wholeF f then 2 else bif !okEs f.terms || decide ((orderF f.terms).length < f.blocks.length) then 9 else bif !valuedF f then 8 else 0
end Go.Proofs.YtkefmjhagmacfaaGreatDoor

/- The package flow: edges of blocks, the critical ones, walked. -/
namespace Go.Proofs.YtkefmjhagmacfaaGreatDoor
set_option linter.unusedVariables false
open Go Go.RowKit
set_option maxRecDepth 100000

/-- A cell of a block of one's own, in whatever is called later. -/
theorem Hp.keeps {w0 w w2 : World} {B i g k : Nat} {M L : List Res} {cs : Array Value} {e : TypeId} {fz : Nat × Nat} {v : Value} (hh : Hp w0 B (M ++ L) w) (hi : L[i]? = some (blk g (.cells cs e fz))) (hk : cs[k]? = some v) (hb : Below w.heap.size w w2) : w2.cell? ⟨g, k, none⟩ = some v := by
  have h1 := Rd.blk hi hk M w hh
  have hlt : g < w.heap.size := World.block_lt_of_cell? w _ h1
  exact (hb.cell (p := ⟨g, k, none⟩) hlt).trans h1
theorem Hp.keepsObj {w0 w w2 : World} {B i g : Nat} {M L : List Res} {o : Obj} (hh : Hp w0 B (M ++ L) w) (hi : L[i]? = some (blk g o)) (hb : Below w.heap.size w w2) : w2.heap[g]? = some o ∧ g < w2.heap.size := by
  have h1 : w.heap[g]? = some o := hh.at_ hi
  have hlt := (Array.getElem?_eq_some_iff.1 h1).1
  exact ⟨(hb.block g hlt).trans h1, Nat.lt_of_lt_of_le hlt hb.size⟩
section
theorem flow_Into_1_ct {w : World} {e : Ed} {g : Nat} {b : Int} (hc : w.cell? ⟨g, 0, none⟩ = some (.int .i64 b)) : Ct Tryz.prog 54 #[e.val, .pointer (some ⟨g, 0, none⟩)] w (Is (.bool (decide (e.to = b)))) := by
  have hlt : g < w.heap.size := World.block_lt_of_cell? w _ hc
  refine Ct.mk Tryz.func54 rfl rfl ?_
  refine Cd.seq ?_
  refine Cd.region ?_
  refine Ol.x bxg ?_
  rintro _ _ ⟨g2, rfl, rfl⟩
  refine Ol.p asb ?_
  refine Ol.nil ?_
  refine Cd.seq ?_
  refine Cd.region ?_
  refine Ol.p (fdl fd_api_Edge_2) ?_
  refine Ol.p (ld one_int (Rd.blk (i := 0) rfl rfl)) ?_
  refine Ol.p (ld one_int (Rd.inp hlt hc)) ?_
  refine Ol.p eqi ?_
  refine Ol.p asb ?_
  refine Ol.nil ?_
  refine Cd.ret ⟨.bool _, ret1 rfl rfl, [], .nil, rfl, rfl⟩
theorem flow_Into_ct {w : World} {f : RFun} {b : Int} (hf : FunAt w w.heap.size f) (hfit : Fit f) : Ct Tryz.prog 16 #[f.val, .int .i64 b] w (NewL 58 3 (someE f.terms fun e => decide (e.to = b)).length (edV (someE f.terms fun e => decide (e.to = b)))) := by
  refine Ct.mk Tryz.func16 rfl rfl ?_
  refine Cd.seq ?_
  refine Cd.region ?_
  refine Ol.x bxg ?_
  rintro _ _ ⟨g2, rfl, rfl⟩
  refine Ol.x bxi ?_
  rintro _ _ ⟨g3, rfl, rfl⟩
  refine Ol.p ass ?_
  refine Ol.nil ?_
  refine Cd.seq ?_
  refine Cd.region ?_
  refine Ol.p (ldw ag_api_Func (i := 1) rfl rfl) ?_
  refine Ol.p mkf ?_
  refine Ol.x (sp_call en_flow_some (fun M w' hh => flow_some_ct (g := 54) (fst := #[]) (cap := #[.pointer (some ⟨g3, 0, none⟩)]) (p := fun e => decide (e.to = b)) (hf.now hh) hfit ⟨en_flow_Into_1, fun e he w2 h2 => flow_Into_1_ct (Hp.keeps hh (i := 0) rfl rfl h2)⟩)) ?_
  rintro _ _ ⟨_, rfl, A, c, rfl, rfl⟩
  refine Ol.p ass ?_
  refine Ol.nil ?_
  refine Cd.ret ⟨.slice _ _ _, ret1 rfl rfl, _, .sub (.cons_cons _ (.cons _ (.cons _ .slnil))), A, c, rfl, rfl⟩
end
section
theorem flow_From_1_ct {w : World} {e : Ed} {g : Nat} {b : Int} (hc : w.cell? ⟨g, 0, none⟩ = some (.int .i64 b)) : Ct Tryz.prog 55 #[e.val, .pointer (some ⟨g, 0, none⟩)] w (Is (.bool (decide (e.src = b)))) := by
  have hlt : g < w.heap.size := World.block_lt_of_cell? w _ hc
  refine Ct.mk Tryz.func55 rfl rfl ?_
  refine Cd.seq ?_
  refine Cd.region ?_
  refine Ol.x bxg ?_
  rintro _ _ ⟨g2, rfl, rfl⟩
  refine Ol.p asb ?_
  refine Ol.nil ?_
  refine Cd.seq ?_
  refine Cd.region ?_
  refine Ol.p (fdl fd_api_Edge_0) ?_
  refine Ol.p (ld one_int (Rd.blk (i := 0) rfl rfl)) ?_
  refine Ol.p (ld one_int (Rd.inp hlt hc)) ?_
  refine Ol.p eqi ?_
  refine Ol.p asb ?_
  refine Ol.nil ?_
  refine Cd.ret ⟨.bool _, ret1 rfl rfl, [], .nil, rfl, rfl⟩
theorem flow_From_ct {w : World} {f : RFun} {b : Int} (hf : FunAt w w.heap.size f) (hfit : Fit f) : Ct Tryz.prog 18 #[f.val, .int .i64 b] w (NewL 58 3 (someE f.terms fun e => decide (e.src = b)).length (edV (someE f.terms fun e => decide (e.src = b)))) := by
  refine Ct.mk Tryz.func18 rfl rfl ?_
  refine Cd.seq ?_
  refine Cd.region ?_
  refine Ol.x bxg ?_
  rintro _ _ ⟨g2, rfl, rfl⟩
  refine Ol.x bxi ?_
  rintro _ _ ⟨g3, rfl, rfl⟩
  refine Ol.p ass ?_
  refine Ol.nil ?_
  refine Cd.seq ?_
  refine Cd.region ?_
  refine Ol.p (ldw ag_api_Func (i := 1) rfl rfl) ?_
  refine Ol.p mkf ?_
  refine Ol.x (sp_call en_flow_some (fun M w' hh => flow_some_ct (g := 55) (fst := #[]) (cap := #[.pointer (some ⟨g3, 0, none⟩)]) (p := fun e => decide (e.src = b)) (hf.now hh) hfit ⟨en_flow_From_1, fun e he w2 h2 => flow_From_1_ct (Hp.keeps hh (i := 0) rfl rfl h2)⟩)) ?_
  rintro _ _ ⟨_, rfl, A, c, rfl, rfl⟩
  refine Ol.p ass ?_
  refine Ol.nil ?_
  refine Cd.ret ⟨.slice _ _ _, ret1 rfl rfl, _, .sub (.cons_cons _ (.cons _ (.cons _ .slnil))), A, c, rfl, rfl⟩
end

/-- How often a number stands among some. -/
def cnt (l : List Int) (n : Int) : Nat := l.count n
/-- Is an edge critical: one of more out of its block, one of more into its block? -/
def critE (ts : List Tm) (e : Ed) : Bool := decide (1 < cnt ((edges ts).map Ed.to) e.to) && decide (1 < cnt ((edges ts).map Ed.src) e.src)
/-- A map that counts. -/
def Cnts (es : List MapEntry) (l : List Int) : Prop := AllI es ∧ ∀ n, (mget es n).getD (.int .i64 0) = .int .i64 (cnt l n : Int)
theorem Cnts.nil : Cnts [] [] := ⟨fun e h => (by cases h), fun n => by simp [mget, cnt]⟩
theorem Cnts.snoc {es es' : List MapEntry} {l : List Int} {k : Int} (h : Cnts es l) (ha : AllI es') (hm : ∀ m, mget es' m = if m = k then some (.int .i64 ((cnt l k : Int) + 1)) else mget es m) : Cnts es' (l ++ [k]) := ⟨ha, fun n => by
  rw [hm n]
  by_cases hn : n = k
  · subst hn
    simp [cnt]
  · rw [if_neg hn, h.2 n]
    have : ¬ k = n := fun e => hn e.symm
    simp [cnt, List.count_append, this]⟩
section
theorem flow_Critical_1_ct {w : World} {e : Ed} {ga gb m1 m2 c1 c2 : Nat} {es1 es2 : Array MapEntry} {l1 l2 : List Int} (ha : w.cell? ⟨ga, 0, none⟩ = some (.map (some m1))) (hb : w.cell? ⟨gb, 0, none⟩ = some (.map (some m2)))
    (h1 : w.heap[m1]? = some (.map es1 c1)) (h2 : w.heap[m2]? = some (.map es2 c2)) (k1 : Cnts es1.toList l1) (k2 : Cnts es2.toList l2) :
    Ct Tryz.prog 56 #[e.val, .pointer (some ⟨ga, 0, none⟩), .pointer (some ⟨gb, 0, none⟩)] w (Is (.bool (decide (1 < cnt l1 e.to) && decide (1 < cnt l2 e.src)))) := by
  have hlt1 : ga < w.heap.size := World.block_lt_of_cell? w _ ha
  have hlt2 : gb < w.heap.size := World.block_lt_of_cell? w _ hb
  have hm1 := (Array.getElem?_eq_some_iff.1 h1).1
  have hm2 := (Array.getElem?_eq_some_iff.1 h2).1
  refine Ct.mk Tryz.func56 rfl rfl ?_
  refine Cd.seq ?_
  refine Cd.region ?_
  refine Ol.x bxg ?_
  rintro _ _ ⟨g3, rfl, rfl⟩
  refine Ol.p asb ?_
  refine Ol.nil ?_
  refine Cd.seq ?_
  cases hc : decide ((1 : Int) < (cnt l1 e.to : Int)) with
  | true =>
    refine Cd.region ?_
    refine Ol.p (ld one_map_int_int (Rd.inp hlt1 ha)) ?_
    refine Ol.p (fdl fd_api_Edge_2) ?_
    refine Ol.p (ld one_int (Rd.blk (i := 0) rfl rfl)) ?_
    refine Ol.p (lkw mt_map_int_int hm1 h1 k1.1 (k1.2 e.to)) ?_
    refine Ol.p gti ?_
    refine Ol.p mvb ?_
    refine Ol.gp hc (ld one_map_int_int (Rd.inp hlt2 hb)) ?_
    refine Ol.gp hc (fdl fd_api_Edge_0) ?_
    refine Ol.gp hc (ld one_int (Rd.blk (i := 0) rfl rfl)) ?_
    refine Ol.gp hc (lkw mt_map_int_int hm2 h2 k2.1 (k2.2 e.src)) ?_
    refine Ol.gp hc gti ?_
    refine Ol.p (pkTb hc) ?_
    refine Ol.p asb ?_
    refine Ol.nil ?_
    refine Cd.ret ⟨.bool _, ret1 rfl rfl, [], .nil, ?_, rfl⟩
    have : 1 < cnt l1 e.to := by simp at hc; omega
    simp [this]
    omega
  | false =>
    refine Cd.region ?_
    refine Ol.p (ld one_map_int_int (Rd.inp hlt1 ha)) ?_
    refine Ol.p (fdl fd_api_Edge_2) ?_
    refine Ol.p (ld one_int (Rd.blk (i := 0) rfl rfl)) ?_
    refine Ol.p (lkw mt_map_int_int hm1 h1 k1.1 (k1.2 e.to)) ?_
    refine Ol.p gti ?_
    refine Ol.p mvb ?_
    refine Ol.gn hc ?_
    refine Ol.gn hc ?_
    refine Ol.gn hc ?_
    refine Ol.gn hc ?_
    refine Ol.gn hc ?_
    refine Ol.p (pkFb hc) ?_
    refine Ol.p asb ?_
    refine Ol.nil ?_
    refine Cd.ret ⟨.bool _, ret1 rfl rfl, [], .nil, ?_, rfl⟩
    have : ¬ 1 < cnt l1 e.to := by simp at hc; omega
    simp [this]
set_option maxHeartbeats 1000000 in
theorem flow_Critical_ct {w : World} {f : RFun} (hf : FunAt w w.heap.size f) (hfit : Fit f) : Ct Tryz.prog 20 #[f.val] w (NewL 58 3 (someE f.terms (critE f.terms)).length (edV (someE f.terms (critE f.terms)))) := by
  have hbl := hfit.blen
  have htl : f.terms.length = f.blocks.length := by simp [RFun.terms]
  have hel := edgesTo_len_le f.terms f.terms.length
  refine Ct.mk Tryz.func20 rfl rfl ?_
  refine Cd.seq ?_
  refine Cd.region ?_
  refine Ol.x bxg ?_
  rintro _ _ ⟨g1, rfl, rfl⟩
  refine Ol.p ass ?_
  refine Ol.nil ?_
  refine Cd.seq ?_
  refine Cd.region ?_
  refine Ol.x mkm ?_
  rintro _ _ ⟨g6, rfl, rfl⟩
  refine Ol.x mkm ?_
  rintro _ _ ⟨g7, rfl, rfl⟩
  refine Ol.x (alc zr_map_int_int) ?_
  rintro _ _ ⟨g3, rfl, rfl⟩
  refine Ol.x (alc zr_map_int_int) ?_
  rintro _ _ ⟨g4, rfl, rfl⟩
  refine Ol.s (stv sz_map_int_int (i := 1) rfl rfl) ?_
  refine Ol.s (stv sz_map_int_int (i := 0) rfl rfl) ?_
  refine Ol.nil ?_
  refine Cd.seq ?_
  refine Cd.seq ?_
  refine Cd.region ?_
  refine Ol.p (ldw ag_api_Func (i := 4) rfl rfl) ?_
  refine Ol.x (sp_call en_flow_each (fun M w' hh => flow_each_ct (f := f))) ?_
  rintro _ _ ⟨_, rfl, gE, rfl, rfl⟩
  refine Ol.nil ?_
  refine Cd.block ?_
  refine Cd.rf (Own := [blk gE (.cells f.cells.toArray 25)]) (L0 := [blk g4 (.cells #[.map (some g7)] 67), blk g3 (.cells #[.map (some g6)] 67), blk g7 (.map #[] 0), blk g6 (.map #[] 0), blk g1 (.cells f.cells.toArray 25)])
    (fun k L => ∃ es1 es2 c1 c2, L = [blk g4 (.cells #[.map (some g7)] 67), blk g3 (.cells #[.map (some g6)] 67), blk g7 (.map es2 c2), blk g6 (.map es1 c1), blk g1 (.cells f.cells.toArray 25)] ∧ Cnts es1.toList (((edges f.terms).take k).map Ed.to) ∧ Cnts es2.toList (((edges f.terms).take k).map Ed.src))
    (fun _ _ _ => False) (fun _ h => by cases h) en_flow_each_1 (flow_each_1_it hf hfit) (.refl _) ⟨#[], #[], 0, 0, rfl, Cnts.nil, Cnts.nil⟩ ysE_one rfl ?_ ?_ (fun _ _ _ h => h.elim)
  · rintro l H k vs Lj hk ⟨es1, es2, c1, c2, rfl, hk1, hk2⟩
    obtain ⟨e, he, rfl, hlt⟩ := ysE_get hk
    have hkb : k < 2 ^ 52 := by unfold edges at hlt; omega
    have n1 : cnt (((edges f.terms).take k).map Ed.to) e.to ≤ k := Nat.le_trans List.count_le_length (by simp; omega)
    have n2 : cnt (((edges f.terms).take k).map Ed.src) e.src ≤ k := Nat.le_trans List.count_le_length (by simp; omega)
    have s1 : ((edges f.terms).take (k + 1)).map Ed.to = ((edges f.terms).take k).map Ed.to ++ [e.to] := by rw [take_snoc_ he, List.map_append]; rfl
    have s2 : ((edges f.terms).take (k + 1)).map Ed.src = ((edges f.terms).take k).map Ed.src ++ [e.src] := by rw [take_snoc_ he, List.map_append]; rfl
    refine Cd.region ?_
    refine Ol.x (alc zr_api_Edge) ?_
    rintro _ _ ⟨g5, rfl, rfl⟩
    refine Ol.s (stw sz_api_Edge rfl e.one (i := 0) rfl rfl) ?_
    refine Ol.nil ?_
    intro H' r hr
    refine Cd.block ?_
    refine Cd.seq ?_
    refine Cd.region ?_
    refine Ol.p (ldv one_map_int_int (i := 2) rfl) ?_
    refine Ol.p (fdl fd_api_Edge_2) ?_
    refine Ol.p (ld one_int (Rd.blk (i := 0) rfl rfl)) ?_
    refine Ol.p (lkn mt_map_int_int (i := 4) rfl hk1.1 (hk1.2 e.to)) ?_
    refine Ol.p addi ?_
    refine Ol.x (upm (v := .int .i64 ((cnt (((edges f.terms).take k).map Ed.to) e.to : Int) + 1)) mt_map_int_int (i := 4) rfl hk1.1 rfl) ?_
    rintro _ _ ⟨es1', c1', rfl, ha1, hm1⟩
    refine Ol.nil ?_
    refine Cd.region ?_
    refine Ol.p (ldv one_map_int_int (i := 1) rfl) ?_
    refine Ol.p (fdl fd_api_Edge_0) ?_
    refine Ol.p (ld one_int (Rd.blk (i := 0) rfl rfl)) ?_
    refine Ol.p (lkn mt_map_int_int (i := 3) rfl hk2.1 (hk2.2 e.src)) ?_
    refine Ol.p addi ?_
    refine Ol.x (upm (v := .int .i64 ((cnt (((edges f.terms).take k).map Ed.src) e.src : Int) + 1)) mt_map_int_int (i := 3) rfl hk2.1 rfl) ?_
    rintro _ _ ⟨es2', c2', rfl, ha2, hm2⟩
    refine Ol.keep (.sub (.cons _ (List.Sublist.refl _))) ?_
    refine Ol.nil ?_
    refine ⟨es1', es2', c1', c2', rfl, ?_, ?_⟩
    · rw [s1]; exact hk1.snoc ha1 hm1
    · rw [s2]; exact hk2.snoc ha2 hm2
  · rintro L' ⟨es1, es2, c1, c2, rfl, hk1, hk2⟩
    rw [ysE_len, List.take_length] at hk1 hk2
    refine Cd.seq ?_
    refine Cd.region ?_
    refine Ol.p (ldw ag_api_Func (i := 4) rfl rfl) ?_
    refine Ol.p mkf ?_
    refine Ol.x (sp_call en_flow_some (fun M w' hh => flow_some_ct (g := 56) (fst := #[]) (cap := #[.pointer (some ⟨g3, 0, none⟩), .pointer (some ⟨g4, 0, none⟩)]) (p := critE f.terms) (hf.now hh) hfit ⟨en_flow_Critical_1, fun e he w2 h2 => flow_Critical_1_ct (Hp.keeps hh (i := 1) rfl rfl h2) (Hp.keeps hh (i := 0) rfl rfl h2) (Hp.keepsObj hh (i := 3) rfl h2).1 (Hp.keepsObj hh (i := 2) rfl h2).1 hk1 hk2⟩)) ?_
    rintro _ _ ⟨_, rfl, A, c, rfl, rfl⟩
    refine Ol.p ass ?_
    refine Ol.nil ?_
    refine Cd.ret ⟨.slice _ _ _, ret1 rfl rfl, _, .sub (.cons_cons _ (List.nil_sublist _)), A, c, rfl, rfl⟩
end
end Go.Proofs.YtkefmjhagmacfaaGreatDoor

/- Counts of edges, their order, unions of what is reached: plain laws. -/
namespace Go.Proofs.YtkefmjhagmacfaaGreatDoor
set_option linter.unusedVariables false
set_option maxRecDepth 10000
open Go Go.RowKit

theorem src_range {ts : List Tm} {e : Ed} (he : e ∈ edges ts) : 0 ≤ e.src ∧ e.src < ts.length ∧ 0 ≤ e.arm ∧ e.arm < 2 := by
  obtain ⟨k, j, t, hk, hj, h1, h2⟩ := mem_edges.1 he
  have := (List.getElem?_eq_some_iff.1 hk).1
  have h3 := (List.getElem?_eq_some_iff.1 hj).1
  have := toL_len t
  omega
def outTo (ts : List Tm) (k : Nat) : Nat := (someE ts fun e => decide (e.src < (k : Int))).length
def inTo (ts : List Tm) (k : Nat) : Nat := (someE ts fun e => decide (e.to < (k : Int))).length
theorem someE_len_le (ts : List Tm) (p : Ed → Bool) : (someE ts p).length ≤ 400 := by
  unfold someE
  cases hc : closed ts with
  | false => simp
  | true =>
    rw [cond_true]
    have h1 := (closed_le hc).2
    have h2 := edgesTo_len_le ts ts.length
    have h3 := List.length_filter_le p (edges ts)
    unfold edges at h3 ⊢
    omega
/-- The critical edges among the first ones. -/
def critTo (ts : List Tm) (k : Nat) : List Ed := ((someE ts fun _ => true).take k).filter (critE ts)
def EdLt (a b : Ed) : Prop := a.src < b.src ∨ (a.src = b.src ∧ a.arm < b.arm)
end Go.Proofs.YtkefmjhagmacfaaGreatDoor

/- Plain laws behind the document's answer of layer 03: rounds over all edges. -/
namespace Go.Proofs.YtkefmjhagmacfaaGreatDoor
set_option linter.unusedVariables false
set_option linter.unusedSimpArgs false
open Go Go.RowKit

def orB (S : Nat → Bool) (t : Nat) (c : Bool) : Nat → Bool := fun i => if i = t then S i || c else S i
def upE (P S : Nat → Bool) (e : Ed) : Nat → Bool := orB S e.to.toNat (S e.src.toNat && P e.src.toNat)
/-- The first m edges are gone along. -/
def passM (P : Nat → Bool) (ts : List Tm) (m : Nat) (S : Nat → Bool) : Nat → Bool := ((edges ts).take m).foldl (upE P) S
def passA (P : Nat → Bool) (ts : List Tm) (S : Nat → Bool) : Nat → Bool := passM P ts (edges ts).length S
theorem orB_mono {S : Nat → Bool} {t : Nat} {c : Bool} {i : Nat} (h : S i = true) : orB S t c i = true := by
  unfold orB
  split
  · rw [h]; rfl
  · exact h
section
variable {P : Nat → Bool} {ts : List Tm}
def Ends (ts : List Tm) (n : Nat) : Prop := ∀ e ∈ edges ts, e.src.toNat < n ∧ e.to.toNat < n
def FixB (P : Nat → Bool) (ts : List Tm) (n : Nat) (S : Nat → Bool) : Prop := ∀ i, i < n → passA P ts S i = S i
theorem cntB_up {n : Nat} {S T : Nat → Bool} (h : ∀ i, i < n → S i = true → T i = true) {i : Nat} (hi : i < n) (hS : S i = false) (hT : T i = true) : cntB n S + 1 ≤ cntB n T := by
  unfold cntB
  have hmem : i ∉ (List.range n).filter S := fun hm => by
    rw [(List.mem_filter.1 hm).2] at hS; cases hS
  have := nodup_le (i :: (List.range n).filter S) ((List.range n).filter T) (List.nodup_cons.2 ⟨hmem, List.Pairwise.filter _ List.nodup_range⟩) (fun x hx => by
    rcases List.mem_cons.1 hx with rfl | hx
    · exact List.mem_filter.2 ⟨by simpa using hi, hT⟩
    · obtain ⟨h1, h2⟩ := List.mem_filter.1 hx
      exact List.mem_filter.2 ⟨h1, h x (by simpa using h1) h2⟩)
  simpa using this
end
theorem ends_of {ts : List Tm} (hc : closed ts = true) : Ends ts ts.length := fun e he => by
  have h1 := src_range he
  have h2 := (closed_len hc).2.2 e he
  omega
def oneB : Nat → Bool := fun i => decide (i = 0)
/-- Does a block give a variable no value? -/
def bareP (f : RFun) (v : Int) (b : Nat) : Bool := match f.blocks[b]? with
  | some x => x.ins.all fun i => !decide (defI i = v)
  | none => false
def openB (f : RFun) (v : Int) : Nat → Bool := fun i => decide (i = 0) && !f.params.contains v
open Classical in
/-- May a variable be without a value where it is read? -/
noncomputable def lacksB (f : RFun) (v : Int) : Bool := decide (∃ (b : Nat) (x : RBlk), f.blocks[b]? = some x ∧ exposed x.ins x.term v = true ∧ Bare f v.toNat b)
end Go.Proofs.YtkefmjhagmacfaaGreatDoor

/- The document's answer of layer 03: a function's length, its shape, what is reached, walked. -/
namespace Go.Proofs.YtkefmjhagmacfaaGreatDoor
set_option linter.unusedVariables false
set_option linter.unusedSimpArgs false
open Go Go.RowKit
set_option maxRecDepth 100000

theorem lt_of {a b : Nat} (h : decide ((a : Int) < (b : Int)) = true) : a < b := by have := of_decide_eq_true h; omega
theorem tm_slc {f : RFun} {b : Nat} {x : RBlk} (hx : f.blocks[b]? = some x) : ∀ (j : Nat) (u : Value), x.term.cells[j]? = some u → (f.blocks.flatMap RBlk.cells)[b * 5 + 1 + j]? = some u := fun j u hu => by
  rw [Nat.add_assoc]
  refine blk_cell hx ?_
  rw [Nat.add_comm]
  simpa [RBlk.cells] using hu
end Go.Proofs.YtkefmjhagmacfaaGreatDoor

/- The document's answer of layer 03: what is reached, walked. -/
namespace Go.Proofs.YtkefmjhagmacfaaGreatDoor
set_option linter.unusedVariables false
set_option linter.unusedSimpArgs false
open Go Go.RowKit
set_option maxRecDepth 100000

theorem boolsL_put {n x : Nat} {S : Nat → Bool} {c : Bool} : (boolsL n S).set x (.bool c) = boolsL n fun i => if i = x then c else S i := by
  apply List.ext_getElem?
  intro i
  rw [List.getElem?_set]
  unfold boolsL
  by_cases h : x = i
  · subst h
    by_cases hl : x < n
    · simp [hl]
    · simp [hl]
  · have h' : ¬ i = x := fun e => h e.symm
    rw [if_neg h, List.getElem?_map, List.getElem?_map]
    by_cases hl : i < n
    · rw [List.getElem?_range hl]
      simp [h']
    · rw [List.getElem?_eq_none (by simp; omega)]
      rfl
theorem boolsL_same {n : Nat} {S T : Nat → Bool} (h : ∀ i, i < n → S i = T i) : boolsL n S = boolsL n T := by
  unfold boolsL
  apply List.map_congr_left
  intro i hi
  rw [h i (by simpa using hi)]
theorem toL_edge {f : RFun} {b j : Nat} {x : RBlk} {n : Int} (hx : f.blocks[b]? = some x) (hn : (toL x.term)[j]? = some n) : (edges f.terms)[(edgesTo f.terms b).length + j]? = some ⟨(b : Int), (j : Int), n⟩ := by
  have ht : f.terms[b]? = some x.term := by unfold RFun.terms; rw [List.getElem?_map, hx]; rfl
  exact edges_get ht hn
theorem edgesTo_next {f : RFun} {b : Nat} {x : RBlk} (hx : f.blocks[b]? = some x) : (edgesTo f.terms (b + 1)).length = (edgesTo f.terms b).length + (toL x.term).length := by
  have ht : f.terms[b]? = some x.term := by unfold RFun.terms; rw [List.getElem?_map, hx]; rfl
  rw [edgesTo_succ ht, List.length_append, edgesB_len]
end Go.Proofs.YtkefmjhagmacfaaGreatDoor

/- Reference 10: edges, walked. -/
namespace Go.Proofs.YtkefmjhagmacfaaGreatDoor
set_option linter.unusedVariables false
set_option linter.unusedSimpArgs false
open Go Go.RowKit
set_option maxRecDepth 100000
theorem edges_len_le (f : RFun) : (edges f.terms).length ≤ 2 * f.blocks.length := by
  have := edgesTo_len_le f.terms f.terms.length
  have htl : f.terms.length = f.blocks.length := by simp [RFun.terms]
  rw [htl] at this
  unfold edges
  rwa [htl]
theorem edV_at {l : List Ed} {k j : Nat} {e : Ed} {u : Value} (h : l[k]? = some e) (hu : e.cells[j]? = some u) : (edV l)[k * 3 + j]? = some u := by
  have hl := (List.getElem?_eq_some_iff.1 hu).1
  unfold edV
  rw [flat_get Ed.len _ _ _ _ h hl]
  exact hu
theorem ge_of_ {a b : Nat} (h : decide ((a : Int) < (b : Int)) = false) : b ≤ a := by
  have := of_decide_eq_false h
  omega
theorem closed_all {f : RFun} (h : 1 ≤ f.blocks.length ∧ f.blocks.length ≤ 200) : closed f.terms = (edges f.terms).all (okE f.blocks.length) := by
  have htl : f.terms.length = f.blocks.length := by simp [RFun.terms]
  unfold closed
  rw [htl, decide_eq_true (by omega : 0 < f.blocks.length), decide_eq_true h.2, Bool.and_true, Bool.and_true]
  rfl
theorem cnt_snoc {E : List Ed} {q : Nat} {x : Ed} {pr : Ed → Int} (hx : E[q]? = some x) (n : Int) : cnt ((E.take (q + 1)).map pr) n = cnt ((E.take q).map pr) n + (if pr x = n then 1 else 0) := by
  unfold cnt
  rw [take_snoc_ hx, List.map_append, List.count_append]
  congr 1
  by_cases h : pr x = n
  · simp [h]
  · simp [h]
theorem cnt_le {E : List Ed} {q : Nat} (pr : Ed → Int) (n : Int) : cnt ((E.take q).map pr) n ≤ q := by
  unfold cnt
  refine Nat.le_trans List.count_le_length ?_
  rw [List.length_map, List.length_take]
  omega
section
set_option maxHeartbeats 2000000 in
theorem ref10_all_ct {w : World} {f : RFun} (hf : FunAt w w.heap.size f) (hfit : Fit f) (hbl : f.blocks.length < 2 ^ 30) : Ct Tryz.prog 51 #[f.val] w (NewL 58 3 (edges f.terms).length (edV (edges f.terms))) := by
  have htl : f.terms.length = f.blocks.length := by simp [RFun.terms]
  have hel := edges_len_le f
  obtain ⟨E, hE⟩ : ∃ E, E = edges f.terms := ⟨_, rfl⟩
  rw [← hE] at hel ⊢
  refine Ct.mk Tryz.func51 rfl rfl ?_
  refine Cd.seq ?_
  refine Cd.region ?_
  refine Ol.x bxg ?_
  rintro _ _ ⟨g1, rfl, rfl⟩
  refine Ol.p ass ?_
  refine Ol.nil ?_
  refine Cd.seq ?_
  refine Cd.region ?_
  refine Ol.p ass ?_
  refine Ol.nil ?_
  refine Cd.nr 58 3 ?_
  refine Cd.seq ?_
  refine Cd.seq ?_
  refine Cd.region ?_
  refine Ol.p asi ?_
  refine Ol.nil ?_
  refine Cd.block ?_   -- 0
  refine Cd.loop (fun m σ L => ∃ (b : Nat) (A : Option Addr) (c n : Nat), m = f.blocks.length - b ∧ b ≤ f.blocks.length ∧ n = (edgesTo f.terms b).length ∧ Has σ [(1, .pointer (some ⟨g1, 0, none⟩)), (3, .slice A n c), (4, .int .i64 b)] ∧ [row (.slice A n c) 58 3 n (edV (E.take n)), blk g1 (.cells f.cells.toArray 25)] = L) (n := f.blocks.length) ⟨0, none, 0, 0, rfl, Nat.zero_le _, by rw [edgesTo_zero]; rfl, ⟨rfl, rfl, rfl, trivial⟩, rfl⟩ ?_
  rintro _ σ L ⟨b, A, c, n, rfl, hb, hn, hs, rfl⟩
  refine Cd.has hs ?_
  clear hs
  refine Cd.seq ?_
  refine Cd.seq ?_
  refine Cd.region ?_
  refine Ol.p mvi ?_
  refine Ol.p (fdl fd_api_Func_1) ?_
  refine Ol.p (ld (v := .slice f.bA f.blocks.length f.bC) one_L_api_Block (Rd.blk (i := 1) rfl rfl)) ?_
  refine Ol.p (lens sl_L_api_Block) ?_
  refine Ol.p lsi ?_
  refine Ol.nil ?_
  refine Cd.cond rfl (fun h => ?_) (fun h => ?_)   -- $11
  · have hlt := lt_of h
    obtain ⟨x, hx⟩ : ∃ x, f.blocks[b]? = some x := ⟨_, List.getElem?_eq_getElem hlt⟩
    have hnb := edgesTo_len_le f.terms b
    obtain ⟨to, hto⟩ : ∃ to, to = toL x.term := ⟨_, rfl⟩
    have hto2 : to.length ≤ 2 := by rw [hto]; exact toL_len _
    refine Cd.skip ?_
    refine Cd.seq ?_
    refine Cd.block ?_   -- 1
    refine Cd.seq ?_
    refine Cd.region ?_
    refine Ol.p (fdl fd_api_Func_1) ?_
    refine Ol.p (ld (v := .slice f.bA f.blocks.length f.bC) one_L_api_Block (Rd.blk (i := 1) rfl rfl)) ?_
    refine Ol.p mvi ?_
    refine Ol.p (ixn (ix := b) sl_L_api_Block (Som.slc hf.blocks (by omega))) ?_
    refine Ol.p (fdp fd_api_Block_1) ?_
    refine Ol.p (lds (es := x.term.cells) ag_api_Term hf.blocks rfl (tm_slc hx)) ?_
    refine Ol.x (sp_call (vs := [x.term.val]) (R := NewL 3 1 to.length (ints to)) en_ref03_To (fun M w' hh => hto ▸ ref03_To_ct (t := x.term))) ?_
    rintro _ _ ⟨_, rfl, A20, c20, rfl, rfl⟩
    refine Ol.p ass ?_
    refine Ol.nil ?_
    refine Cd.seq ?_
    refine Cd.region ?_
    refine Ol.p asi ?_
    refine Ol.nil ?_
    refine Cd.block ?_   -- 2
    refine Cd.loop (fun m σ L => ∃ (j : Nat) (A : Option Addr) (c q : Nat), m = to.length - j ∧ j ≤ to.length ∧ q = n + j ∧ Has σ [(1, .pointer (some ⟨g1, 0, none⟩)), (3, .slice A q c), (4, .int .i64 b), (5, .slice A20 to.length c20), (6, .int .i64 j)] ∧ [row (.slice A20 to.length c20) 3 1 to.length (ints to), row (.slice A q c) 58 3 q (edV (E.take q)), blk g1 (.cells f.cells.toArray 25)] = L) (n := to.length) ⟨0, A, c, n, rfl, Nat.zero_le _, rfl, ⟨rfl, rfl, rfl, rfl, rfl, trivial⟩, rfl⟩ ?_
    rintro _ σ L ⟨j, A', c', q, rfl, hj, hq, hs, rfl⟩
    refine Cd.has hs ?_
    clear hs
    refine Cd.seq ?_
    refine Cd.seq ?_
    refine Cd.region ?_
    refine Ol.p mvi ?_
    refine Ol.p mvs ?_
    refine Ol.p (lens sl_L_int) ?_
    refine Ol.p lsi ?_
    refine Ol.nil ?_
    refine Cd.cond rfl (fun h => ?_) (fun h => ?_)   -- $24
    · have hlt2 := lt_of h
      obtain ⟨t, ht⟩ : ∃ t, to[j]? = some t := ⟨_, List.getElem?_eq_getElem hlt2⟩
      have hed : E[q]? = some ⟨(b : Int), (j : Int), t⟩ := by
        rw [hq, hn, hE]
        exact toL_edge hx (hto ▸ ht)
      refine Cd.skip ?_
      refine Cd.seq ?_
      refine Cd.block ?_   -- 3
      refine Cd.region ?_
      refine Ol.p mvs ?_
      refine Ol.p mvi ?_
      refine Ol.p mvi ?_
      refine Ol.p mvs ?_
      refine Ol.p mvi ?_
      refine Ol.p (ixn1 (ix := j) sl_L_int (Som.row (i := 0) rfl (by omega))) ?_
      refine Ol.p (ld (v := .int .i64 t) one_int (Rd.row (i := 0) rfl (ints_at ht))) ?_
      refine Ol.p (bds (cs := (Ed.cells ⟨(b : Int), (j : Int), t⟩).toArray) bs_api_Edge zr_api_Edge (hf := by kernel_rfl)) ?_
      refine Ol.x (bsn [Ed.val ⟨(b : Int), (j : Int), t⟩] sl_L_api_Edge zr_api_Edge (by intro v hv; cases hv with | head => rfl | tail _ h => cases h) rfl (by decide) (by decide)) ?_
      rintro _ _ ⟨g35, rfl, rfl⟩
      refine Ol.x (apn (i := 2) (n := q) (m := 1) sl_L_api_Edge zr_api_Edge rfl (by decide) rfl (Src.row (i := 0) rfl rfl) (Ed.one1 _) (by unfold maxLen; omega) (by omega)) ?_
      rintro _ _ ⟨A2, c2, rfl, rfl⟩
      refine Ol.p ass ?_
      refine Ol.keep (.sub (.cons _ (List.Sublist.refl _))) ?_
      refine Ol.nil ?_
      refine Cd.region ?_
      refine Ol.p mvi ?_
      refine Ol.p addi ?_
      refine Ol.p asi ?_
      refine Ol.nil ?_
      refine ⟨to.length - (j + 1), by omega, j + 1, A2, c2, q + 1, rfl, by omega, by omega, ⟨rfl, rfl, rfl, rfl, rfl, trivial⟩, ?_⟩
      rw [take_snoc_ hed, edV_app]
      rfl
    have hje : j = to.length := by
      have := ge_of_ h
      omega
    refine Cd.exit (id := 2) ?_
    refine Cd.keep (.sub (.cons _ (List.Sublist.refl _))) ?_
    refine Cd.region ?_
    refine Ol.p mvi ?_
    refine Ol.p addi ?_
    refine Ol.p asi ?_
    refine Ol.nil ?_
    refine ⟨f.blocks.length - (b + 1), by omega, b + 1, A', c', q, rfl, by omega, ?_, ⟨rfl, rfl, rfl, trivial⟩, rfl⟩
    rw [edgesTo_next hx, ← hto, ← hn]
    omega
  have hbe : b = f.blocks.length := by
    have := ge_of_ h
    omega
  have hne : n = E.length := by
    rw [hn, hbe, hE, ← htl]
    rfl
  refine Cd.exit (id := 0) ?_
  refine Cd.seq ?_
  refine Cd.region ?_
  refine Ol.p mvs ?_
  refine Ol.p ass ?_
  refine Ol.nil ?_
  rw [hne, List.take_length]
  exact Cd.ret ⟨.slice A E.length c, ret1 rfl rfl, _, .sub (.cons_cons _ (List.nil_sublist _)), A, c, rfl, rfl⟩
end
section
theorem closed_no {f : RFun} (h : f.blocks.length < 1 ∨ 200 < f.blocks.length) : closed f.terms = false := by
  have htl : f.terms.length = f.blocks.length := by simp [RFun.terms]
  cases hc : closed f.terms with
  | false => rfl
  | true => have := closed_len hc; omega
set_option maxHeartbeats 2000000 in
theorem ref10_Closed_ct {w : World} {f : RFun} (hf : FunAt w w.heap.size f) (hfit : Fit f) : Ct Tryz.prog 12 #[f.val] w (Is (.bool (closed f.terms))) := by
  have htl : f.terms.length = f.blocks.length := by simp [RFun.terms]
  have hbl := hfit.blen
  refine Ct.mk Tryz.func12 rfl rfl ?_
  refine Cd.seq ?_
  refine Cd.region ?_
  refine Ol.x bxg ?_
  rintro _ _ ⟨g1, rfl, rfl⟩
  refine Ol.p asb ?_
  refine Ol.nil ?_
  refine Cd.seq ?_
  refine Cd.mid (fun σ' L' => Has σ' [(1, .pointer (some ⟨g1, 0, none⟩)), (14, .bool (decide ((f.blocks.length : Int) < 1) || decide (200 < (f.blocks.length : Int))))] ∧ [blk g1 (.cells f.cells.toArray 25)] = L') ?_ ?_
  · cases h4 : decide ((f.blocks.length : Int) < 1) with
    | true =>
      refine Cd.region ?_
      refine Ol.p (fdl fd_api_Func_1) ?_
      refine Ol.p (ld (v := .slice f.bA f.blocks.length f.bC) one_L_api_Block (Rd.blk (i := 0) rfl rfl)) ?_
      refine Ol.p (lens sl_L_api_Block) ?_
      refine Ol.p lsi ?_
      refine Ol.p mvb ?_
      refine Ol.gn h4 ?_
      refine Ol.gn h4 ?_
      refine Ol.gn h4 ?_
      refine Ol.gn h4 ?_
      refine Ol.p (pkTb h4) ?_
      refine Ol.nil ?_
      exact ⟨⟨rfl, rfl, trivial⟩, rfl⟩
    | false =>
      refine Cd.region ?_
      refine Ol.p (fdl fd_api_Func_1) ?_
      refine Ol.p (ld (v := .slice f.bA f.blocks.length f.bC) one_L_api_Block (Rd.blk (i := 0) rfl rfl)) ?_
      refine Ol.p (lens sl_L_api_Block) ?_
      refine Ol.p lsi ?_
      refine Ol.p mvb ?_
      refine Ol.gp h4 (fdl fd_api_Func_1) ?_
      refine Ol.gp h4 (ld (v := .slice f.bA f.blocks.length f.bC) one_L_api_Block (Rd.blk (i := 0) rfl rfl)) ?_
      refine Ol.gp h4 (lens sl_L_api_Block) ?_
      refine Ol.gp h4 gti ?_
      refine Ol.p (pkFb h4) ?_
      refine Ol.nil ?_
      exact ⟨⟨rfl, rfl, trivial⟩, rfl⟩
  rintro σ' _ ⟨hs', rfl⟩
  refine Cd.has hs' ?_
  clear hs'
  refine Cd.cond rfl (fun h => ?_) (fun h => ?_)   -- $14
  · have h : (decide ((f.blocks.length : Int) < 1) || decide (200 < (f.blocks.length : Int))) = true := h
    rw [Bool.or_eq_true, decide_eq_true_eq, decide_eq_true_eq] at h
    rw [closed_no (f := f) (by omega)]
    refine Cd.seq ?_
    refine Cd.region ?_
    refine Ol.p asb ?_
    refine Ol.nil ?_
    exact Cd.ret ⟨.bool false, ret1 rfl rfl, [], .nil, rfl, rfl⟩
  have h : (decide ((f.blocks.length : Int) < 1) || decide (200 < (f.blocks.length : Int))) = false := h
  rw [Bool.or_eq_false_iff, decide_eq_false_iff_not, decide_eq_false_iff_not] at h
  have h200 : 1 ≤ f.blocks.length ∧ f.blocks.length ≤ 200 := by omega
  clear h
  have hel := edges_len_le f
  refine Cd.skip ?_
  refine Cd.seq ?_
  refine Cd.region ?_
  refine Ol.p (ldw (cs := f.cells.toArray) ag_api_Func (i := 0) rfl rfl) ?_
  refine Ol.x (sp_call (vs := [f.val]) en_ref10_all (fun M w' hh => ref10_all_ct (hf.now hh) hfit (by omega))) ?_
  rintro _ _ ⟨_, rfl, A16, c16, rfl, rfl⟩
  refine Ol.p ass ?_
  refine Ol.nil ?_
  obtain ⟨E, hE⟩ : ∃ E, E = edges f.terms := ⟨_, rfl⟩
  have hcl : closed f.terms = E.all (okE f.blocks.length) := by
    rw [hE]
    exact closed_all h200
  rw [hcl]
  rw [← hE] at hel ⊢
  refine Cd.seq ?_
  refine Cd.seq ?_
  refine Cd.region ?_
  refine Ol.p asi ?_
  refine Ol.nil ?_
  refine Cd.block ?_   -- 0
  refine Cd.loop (fun m σ L => ∃ k, m = E.length - k ∧ k ≤ E.length ∧ (E.take k).all (okE f.blocks.length) = true ∧ Has σ [(1, .pointer (some ⟨g1, 0, none⟩)), (3, .slice A16 E.length c16), (4, .int .i64 k)] ∧ [row (.slice A16 E.length c16) 58 3 E.length (edV E), blk g1 (.cells f.cells.toArray 25)] = L) (n := E.length) ⟨0, rfl, Nat.zero_le _, rfl, ⟨rfl, rfl, rfl, trivial⟩, rfl⟩ ?_
  rintro _ σ L ⟨k, rfl, hk, hall, hs, rfl⟩
  refine Cd.has hs ?_
  clear hs
  refine Cd.seq ?_
  refine Cd.seq ?_
  refine Cd.region ?_
  refine Ol.p mvi ?_
  refine Ol.p mvs ?_
  refine Ol.p (lens sl_L_api_Edge) ?_
  refine Ol.p lsi ?_
  refine Ol.nil ?_
  refine Cd.cond rfl (fun h => ?_) (fun h => ?_)   -- $20
  · have hlt := lt_of h
    obtain ⟨e, he⟩ : ∃ e, E[k]? = some e := ⟨_, List.getElem?_eq_getElem hlt⟩
    have hto : (edV E)[k * 3 + 2]? = some (.int .i64 e.to) := edV_at he rfl
    refine Cd.skip ?_
    refine Cd.seq ?_
    refine Cd.block ?_   -- 1
    obtain ⟨L0, hL0⟩ : ∃ L0, L0 = [row (.slice A16 E.length c16) 58 3 E.length (edV E), blk g1 (.cells f.cells.toArray 25)] := ⟨_, rfl⟩
    refine Cd.mid (fun σ' L' => Has σ' [(1, .pointer (some ⟨g1, 0, none⟩)), (3, .slice A16 E.length c16), (4, .int .i64 k), (39, .bool (decide (e.to < 0) || decide ((f.blocks.length : Int) ≤ e.to)))] ∧ L0 = L') ?_ ?_
    · subst hL0
      cases h6 : decide (e.to < 0) with
      | true =>
        refine Cd.draw mixed 17 (fun _ => none) (fun _ => []) (by kernel_rfl) (fun _ _ h => by cases h) (fun u hu => ?_)
        refine Wk.p mvs ?_
        refine Wk.p mvi ?_
        refine Wk.p (ixn (ix := k) sl_L_api_Edge (Som.row (i := 0) rfl (by omega))) ?_
        refine Wk.p (fdp fd_api_Edge_2) ?_
        refine Wk.p (ld (v := .int .i64 e.to) one_int (Rd.row (i := 0) rfl hto)) ?_
        refine Wk.p lsi ?_
        refine Wk.p mvb ?_
        refine Wk.gn h6 ?_
        refine Wk.gn h6 ?_
        refine Wk.gn h6 ?_
        refine Wk.gn h6 ?_
        refine Wk.gn h6 ?_
        refine Wk.gn h6 ?_
        refine Wk.gn h6 ?_
        refine Wk.gn h6 ?_
        refine Wk.gn h6 ?_
        refine Wk.p (pkTb h6) ?_
        refine Wk.nil ?_
        refine Ol.nil ?_
        exact ⟨⟨rfl, rfl, rfl, rfl, trivial⟩, rfl⟩
      | false =>
        refine Cd.draw mixed 17 (fun _ => none) (fun _ => []) (by kernel_rfl) (fun _ _ h => by cases h) (fun u hu => ?_)
        refine Wk.p mvs ?_
        refine Wk.p mvi ?_
        refine Wk.p (ixn (ix := k) sl_L_api_Edge (Som.row (i := 0) rfl (by omega))) ?_
        refine Wk.p (fdp fd_api_Edge_2) ?_
        refine Wk.p (ld (v := .int .i64 e.to) one_int (Rd.row (i := 0) rfl hto)) ?_
        refine Wk.p lsi ?_
        refine Wk.p mvb ?_
        refine Wk.gp h6 mvs ?_
        refine Wk.gp h6 mvi ?_
        refine Wk.gp h6 (ixn (ix := k) sl_L_api_Edge (Som.row (i := 0) rfl (by omega))) ?_
        refine Wk.gp h6 (fdp fd_api_Edge_2) ?_
        refine Wk.gp h6 (ld (v := .int .i64 e.to) one_int (Rd.row (i := 0) rfl hto)) ?_
        refine Wk.gp h6 (fdl fd_api_Func_1) ?_
        refine Wk.gp h6 (ld (v := .slice f.bA f.blocks.length f.bC) one_L_api_Block (Rd.blk (i := 1) rfl rfl)) ?_
        refine Wk.gp h6 (lens sl_L_api_Block) ?_
        refine Wk.gp h6 gei ?_
        refine Wk.p (pkFb h6) ?_
        refine Wk.nil ?_
        refine Ol.nil ?_
        exact ⟨⟨rfl, rfl, rfl, rfl, trivial⟩, rfl⟩
    rintro σ' _ ⟨hs', rfl⟩
    refine Cd.has hs' ?_
    clear hs'
    subst hL0
    have hokE : okE f.blocks.length e = !(decide (e.to < 0) || decide ((f.blocks.length : Int) ≤ e.to)) := by
      unfold okE
      by_cases h1 : e.to < 0
      · simp [h1]
        omega
      · by_cases h2 : (f.blocks.length : Int) ≤ e.to
        · simp [h1, h2]
        · simp [h1, h2]
          omega
    refine Cd.cond rfl (fun h => ?_) (fun h => ?_)   -- $39
    · have h : (decide (e.to < 0) || decide ((f.blocks.length : Int) ≤ e.to)) = true := h
      rw [h] at hokE
      have hf0 : E.all (okE f.blocks.length) = false := by
        rw [List.all_eq_false]
        exact ⟨e, List.mem_of_getElem? he, by rw [hokE]; decide⟩
      rw [hf0]
      refine Cd.seq ?_
      refine Cd.region ?_
      refine Ol.p asb ?_
      refine Ol.nil ?_
      exact Cd.ret ⟨.bool false, ret1 rfl rfl, [], .nil, rfl, rfl⟩
    have h : (decide (e.to < 0) || decide ((f.blocks.length : Int) ≤ e.to)) = false := h
    rw [h] at hokE
    refine Cd.skip ?_
    refine Cd.region ?_
    refine Ol.p mvi ?_
    refine Ol.p addi ?_
    refine Ol.p asi ?_
    refine Ol.nil ?_
    refine ⟨E.length - (k + 1), by omega, k + 1, rfl, by omega, ?_, ⟨rfl, rfl, rfl, trivial⟩, rfl⟩
    rw [take_snoc_ he, List.all_append, hall]
    simp [hokE]
  have hke : k = E.length := by
    have := ge_of_ h
    omega
  refine Cd.exit (id := 0) ?_
  rw [hke, List.take_length] at hall
  rw [hall]
  refine Cd.seq ?_
  refine Cd.region ?_
  refine Ol.p asb ?_
  refine Ol.nil ?_
  exact Cd.ret ⟨.bool true, ret1 rfl rfl, [], .nil, rfl, rfl⟩
end
section
theorem ref10_Edges_ct {w : World} {f : RFun} (hf : FunAt w w.heap.size f) (hfit : Fit f) : Ct Tryz.prog 15 #[f.val] w (NewL 58 3 (someE f.terms fun _ => true).length (edV (someE f.terms fun _ => true))) := by
  have htl : f.terms.length = f.blocks.length := by simp [RFun.terms]
  refine Ct.mk Tryz.func15 rfl rfl ?_
  refine Cd.seq ?_
  refine Cd.region ?_
  refine Ol.x bxg ?_
  rintro _ _ ⟨g1, rfl, rfl⟩
  refine Ol.p ass ?_
  refine Ol.nil ?_
  refine Cd.seq ?_
  refine Cd.seq ?_
  refine Cd.region ?_
  refine Ol.p (ldw (cs := f.cells.toArray) ag_api_Func (i := 0) rfl rfl) ?_
  refine Ol.s (cl (v := .bool (closed f.terms)) en_ref10_Closed (fun M w' hh => ref10_Closed_ct (hf.now hh) hfit)) ?_
  refine Ol.p noti ?_
  refine Ol.nil ?_
  refine Cd.cond rfl (fun h => ?_) (fun h => ?_)   -- $5
  · have hcl : closed f.terms = false := by simpa using h
    have e : someE f.terms (fun _ => true) = [] := by unfold someE; rw [hcl]; rfl
    rw [e]
    refine Cd.nr 58 3 ?_
    refine Cd.seq ?_
    refine Cd.region ?_
    refine Ol.p ass ?_
    refine Ol.nil ?_
    exact Cd.ret ⟨.slice none 0 0, ret1 rfl rfl, _, .sub (.cons_cons _ (List.nil_sublist _)), none, 0, rfl, rfl⟩
  have hcl : closed f.terms = true := by simpa using h
  have h200 := closed_len hcl
  have e : someE f.terms (fun _ => true) = edges f.terms := by unfold someE; rw [hcl]; simp
  rw [e]
  refine Cd.skip ?_
  refine Cd.seq ?_
  refine Cd.region ?_
  refine Ol.p (ldw (cs := f.cells.toArray) ag_api_Func (i := 0) rfl rfl) ?_
  refine Ol.x (sp_call (vs := [f.val]) en_ref10_all (fun M w' hh => ref10_all_ct (hf.now hh) hfit (by omega))) ?_
  rintro _ _ ⟨_, rfl, A7, c7, rfl, rfl⟩
  refine Ol.p ass ?_
  refine Ol.nil ?_
  exact Cd.ret ⟨.slice A7 (edges f.terms).length c7, ret1 rfl rfl, _, .sub (.cons_cons _ (List.nil_sublist _)), A7, c7, rfl, rfl⟩
end
theorem someE_filter (ts : List Tm) (p : Ed → Bool) : someE ts p = (someE ts fun _ => true).filter p := by
  unfold someE
  cases closed ts <;> simp
section
set_option maxHeartbeats 2000000 in
theorem ref10_Into_ct {w : World} {f : RFun} {b : Int} (hf : FunAt w w.heap.size f) (hfit : Fit f) : Ct Tryz.prog 17 #[f.val, .int .i64 b] w (NewL 58 3 (someE f.terms fun e => decide (e.to = b)).length (edV (someE f.terms fun e => decide (e.to = b)))) := by
  refine Ct.mk Tryz.func17 rfl rfl ?_
  refine Cd.seq ?_
  refine Cd.region ?_
  refine Ol.x bxg ?_
  rintro _ _ ⟨g2, rfl, rfl⟩
  refine Ol.p ass ?_
  refine Ol.nil ?_
  refine Cd.seq ?_
  refine Cd.region ?_
  refine Ol.p ass ?_
  refine Ol.nil ?_
  refine Cd.seq ?_
  refine Cd.region ?_
  refine Ol.p (ldw (cs := f.cells.toArray) ag_api_Func (i := 0) rfl rfl) ?_
  refine Ol.x (sp_call (vs := [f.val]) en_ref10_Edges (fun M w' hh => ref10_Edges_ct (hf.now hh) hfit)) ?_
  rintro _ _ ⟨_, rfl, A9, c9, rfl, rfl⟩
  refine Ol.p ass ?_
  refine Ol.nil ?_
  have hE4 := someE_len_le f.terms fun _ => true
  obtain ⟨E, hE⟩ : ∃ E, E = someE f.terms fun _ => true := ⟨_, rfl⟩
  have hres : (someE f.terms fun e => decide (e.to = b)) = E.filter fun e => decide (e.to = b) := by rw [hE]; exact someE_filter _ _
  rw [hres]
  rw [← hE] at hE4 ⊢
  refine Cd.nr 58 3 ?_
  refine Cd.keep (L' := [row (.slice none 0 0) 58 3 0 [], row (.slice A9 E.length c9) 58 3 E.length (edV E)]) (.sub (.cons_cons _ (.cons_cons _ (List.nil_sublist _)))) ?_
  refine Cd.seq ?_
  refine Cd.seq ?_
  refine Cd.region ?_
  refine Ol.p asi ?_
  refine Ol.nil ?_
  refine Cd.block ?_   -- 0
  refine Cd.loop (fun m σ L => ∃ (k : Nat) (A : Option Addr) (c n : Nat), m = E.length - k ∧ k ≤ E.length ∧ n = ((E.take k).filter fun e => decide (e.to = b)).length ∧ Has σ [(1, .int .i64 b), (5, .slice A n c), (6, .slice A9 E.length c9), (7, .int .i64 k)] ∧ [row (.slice A n c) 58 3 n (edV ((E.take k).filter fun e => decide (e.to = b))), row (.slice A9 E.length c9) 58 3 E.length (edV E)] = L) (n := E.length) ⟨0, none, 0, 0, rfl, Nat.zero_le _, rfl, ⟨rfl, rfl, rfl, rfl, trivial⟩, rfl⟩ ?_
  rintro _ σ L ⟨k, A, c, n, rfl, hk, hn, hs, rfl⟩
  refine Cd.has hs ?_
  clear hs
  refine Cd.seq ?_
  refine Cd.seq ?_
  refine Cd.region ?_
  refine Ol.p mvi ?_
  refine Ol.p mvs ?_
  refine Ol.p (lens sl_L_api_Edge) ?_
  refine Ol.p lsi ?_
  refine Ol.nil ?_
  refine Cd.cond rfl (fun h => ?_) (fun h => ?_)   -- $13
  · have hlt := lt_of h
    obtain ⟨e, he⟩ : ∃ e, E[k]? = some e := ⟨_, List.getElem?_eq_getElem hlt⟩
    have hto : (edV E)[k * 3 + 2]? = some (.int .i64 e.to) := edV_at he rfl
    have hnk : n ≤ k := by rw [hn]; exact Nat.le_trans (List.length_filter_le _ _) (by simp; omega)
    have hsn : (E.take (k + 1)).filter (fun e => decide (e.to = b)) = (E.take k).filter (fun e => decide (e.to = b)) ++ (if decide (e.to = b) = true then [e] else []) := by
      rw [take_snoc_ he, List.filter_append]
      congr 1
      by_cases hp : decide (e.to = b) = true <;> simp [List.filter, hp]
    refine Cd.skip ?_
    refine Cd.mid (fun σ' L' => ∃ (A' : Option Addr) (c' n' : Nat), n' = ((E.take (k + 1)).filter fun e => decide (e.to = b)).length ∧ Has σ' [(1, .int .i64 b), (5, .slice A' n' c'), (6, .slice A9 E.length c9), (7, .int .i64 k)] ∧ [row (.slice A' n' c') 58 3 n' (edV ((E.take (k + 1)).filter fun e => decide (e.to = b))), row (.slice A9 E.length c9) 58 3 E.length (edV E)] = L') ?_ ?_
    · skip
      refine Cd.block ?_   -- 1
      refine Cd.seq ?_
      refine Cd.region ?_
      refine Ol.p mvs ?_
      refine Ol.p mvi ?_
      refine Ol.p (ixn (ix := k) sl_L_api_Edge (Som.row (i := 1) rfl (by omega))) ?_
      refine Ol.p (fdp fd_api_Edge_2) ?_
      refine Ol.p (ld (v := .int .i64 e.to) one_int (Rd.row (i := 1) rfl hto)) ?_
      refine Ol.p mvi ?_
      refine Ol.p eqi ?_
      refine Ol.nil ?_
      refine Cd.cond rfl (fun h => ?_) (fun h => ?_)   -- $22
      · skip
        refine Cd.region ?_
        refine Ol.p mvs ?_
        refine Ol.p mvs ?_
        refine Ol.p mvi ?_
        refine Ol.p (ixn (ix := k) sl_L_api_Edge (Som.row (i := 1) rfl (by omega))) ?_
        refine Ol.p (ldr (es := e.cells) ag_api_Edge (i := 1) rfl e.len (fun j u hu => edV_at he hu)) ?_
        refine Ol.x (bsn [e.val] sl_L_api_Edge zr_api_Edge (by intro v hv; cases hv with | head => rfl | tail _ h => cases h) rfl (by decide) (by decide)) ?_
        rintro _ _ ⟨g28, rfl, rfl⟩
        refine Ol.x (apn (i := 1) (n := n) (m := 1) sl_L_api_Edge zr_api_Edge rfl (by decide) rfl (Src.row (i := 0) rfl rfl) e.one1 (by unfold maxLen; omega) (by omega)) ?_
        rintro _ _ ⟨A2, c2, rfl, rfl⟩
        refine Ol.p ass ?_
        refine Ol.keep (.sub (.cons _ (List.Sublist.refl _))) ?_
        refine Ol.nil ?_
        refine ⟨A2, c2, n + 1, ?_, ⟨rfl, rfl, rfl, rfl, trivial⟩, ?_⟩
        · rw [hsn, if_pos h, List.length_append, ← hn]; rfl
        · rw [hsn, if_pos h, edV_app]
          rfl
      refine Cd.skip ?_
      refine ⟨A, c, n, ?_, ⟨rfl, rfl, rfl, rfl, trivial⟩, ?_⟩
      · rw [hsn, if_neg (by rw [h]; simp), List.append_nil]; exact hn
      · rw [hsn, if_neg (by rw [h]; simp), List.append_nil]
    rintro σ' _ ⟨A', c', n', hn', hs', rfl⟩
    refine Cd.has hs' ?_
    refine Cd.region ?_
    refine Ol.p mvi ?_
    refine Ol.p addi ?_
    refine Ol.p asi ?_
    refine Ol.nil ?_
    exact ⟨E.length - (k + 1), by omega, k + 1, A', c', n', rfl, by omega, hn', ⟨rfl, rfl, rfl, rfl, trivial⟩, rfl⟩
  have hke : k = E.length := by
    have := ge_of_ h
    omega
  refine Cd.exit (id := 0) ?_
  refine Cd.seq ?_
  refine Cd.region ?_
  refine Ol.p mvs ?_
  refine Ol.p ass ?_
  refine Ol.nil ?_
  rw [hke, List.take_length] at hn ⊢
  rw [← hn]
  exact Cd.ret ⟨.slice A n c, ret1 rfl rfl, _, .sub (.cons_cons _ (List.nil_sublist _)), A, c, rfl, rfl⟩
end
section
set_option maxHeartbeats 2000000 in
theorem ref10_From_ct {w : World} {f : RFun} {b : Int} (hf : FunAt w w.heap.size f) (hfit : Fit f) : Ct Tryz.prog 19 #[f.val, .int .i64 b] w (NewL 58 3 (someE f.terms fun e => decide (e.src = b)).length (edV (someE f.terms fun e => decide (e.src = b)))) := by
  refine Ct.mk Tryz.func19 rfl rfl ?_
  refine Cd.seq ?_
  refine Cd.region ?_
  refine Ol.x bxg ?_
  rintro _ _ ⟨g2, rfl, rfl⟩
  refine Ol.p ass ?_
  refine Ol.nil ?_
  refine Cd.seq ?_
  refine Cd.region ?_
  refine Ol.p ass ?_
  refine Ol.nil ?_
  refine Cd.seq ?_
  refine Cd.region ?_
  refine Ol.p (ldw (cs := f.cells.toArray) ag_api_Func (i := 0) rfl rfl) ?_
  refine Ol.x (sp_call (vs := [f.val]) en_ref10_Edges (fun M w' hh => ref10_Edges_ct (hf.now hh) hfit)) ?_
  rintro _ _ ⟨_, rfl, A9, c9, rfl, rfl⟩
  refine Ol.p ass ?_
  refine Ol.nil ?_
  have hE4 := someE_len_le f.terms fun _ => true
  obtain ⟨E, hE⟩ : ∃ E, E = someE f.terms fun _ => true := ⟨_, rfl⟩
  have hres : (someE f.terms fun e => decide (e.src = b)) = E.filter fun e => decide (e.src = b) := by rw [hE]; exact someE_filter _ _
  rw [hres]
  rw [← hE] at hE4 ⊢
  refine Cd.nr 58 3 ?_
  refine Cd.keep (L' := [row (.slice none 0 0) 58 3 0 [], row (.slice A9 E.length c9) 58 3 E.length (edV E)]) (.sub (.cons_cons _ (.cons_cons _ (List.nil_sublist _)))) ?_
  refine Cd.seq ?_
  refine Cd.seq ?_
  refine Cd.region ?_
  refine Ol.p asi ?_
  refine Ol.nil ?_
  refine Cd.block ?_   -- 0
  refine Cd.loop (fun m σ L => ∃ (k : Nat) (A : Option Addr) (c n : Nat), m = E.length - k ∧ k ≤ E.length ∧ n = ((E.take k).filter fun e => decide (e.src = b)).length ∧ Has σ [(1, .int .i64 b), (5, .slice A n c), (6, .slice A9 E.length c9), (7, .int .i64 k)] ∧ [row (.slice A n c) 58 3 n (edV ((E.take k).filter fun e => decide (e.src = b))), row (.slice A9 E.length c9) 58 3 E.length (edV E)] = L) (n := E.length) ⟨0, none, 0, 0, rfl, Nat.zero_le _, rfl, ⟨rfl, rfl, rfl, rfl, trivial⟩, rfl⟩ ?_
  rintro _ σ L ⟨k, A, c, n, rfl, hk, hn, hs, rfl⟩
  refine Cd.has hs ?_
  clear hs
  refine Cd.seq ?_
  refine Cd.seq ?_
  refine Cd.region ?_
  refine Ol.p mvi ?_
  refine Ol.p mvs ?_
  refine Ol.p (lens sl_L_api_Edge) ?_
  refine Ol.p lsi ?_
  refine Ol.nil ?_
  refine Cd.cond rfl (fun h => ?_) (fun h => ?_)   -- $13
  · have hlt := lt_of h
    obtain ⟨e, he⟩ : ∃ e, E[k]? = some e := ⟨_, List.getElem?_eq_getElem hlt⟩
    have hto : (edV E)[k * 3 + 0]? = some (.int .i64 e.src) := edV_at he rfl
    have hnk : n ≤ k := by rw [hn]; exact Nat.le_trans (List.length_filter_le _ _) (by simp; omega)
    have hsn : (E.take (k + 1)).filter (fun e => decide (e.src = b)) = (E.take k).filter (fun e => decide (e.src = b)) ++ (if decide (e.src = b) = true then [e] else []) := by
      rw [take_snoc_ he, List.filter_append]
      congr 1
      by_cases hp : decide (e.src = b) = true <;> simp [List.filter, hp]
    refine Cd.skip ?_
    refine Cd.mid (fun σ' L' => ∃ (A' : Option Addr) (c' n' : Nat), n' = ((E.take (k + 1)).filter fun e => decide (e.src = b)).length ∧ Has σ' [(1, .int .i64 b), (5, .slice A' n' c'), (6, .slice A9 E.length c9), (7, .int .i64 k)] ∧ [row (.slice A' n' c') 58 3 n' (edV ((E.take (k + 1)).filter fun e => decide (e.src = b))), row (.slice A9 E.length c9) 58 3 E.length (edV E)] = L') ?_ ?_
    · skip
      refine Cd.block ?_   -- 1
      refine Cd.seq ?_
      refine Cd.region ?_
      refine Ol.p mvs ?_
      refine Ol.p mvi ?_
      refine Ol.p (ixn (ix := k) sl_L_api_Edge (Som.row (i := 1) rfl (by omega))) ?_
      refine Ol.p (fdp fd_api_Edge_0) ?_
      refine Ol.p (ld (v := .int .i64 e.src) one_int (Rd.row (i := 1) rfl hto)) ?_
      refine Ol.p mvi ?_
      refine Ol.p eqi ?_
      refine Ol.nil ?_
      refine Cd.cond rfl (fun h => ?_) (fun h => ?_)   -- $22
      · skip
        refine Cd.region ?_
        refine Ol.p mvs ?_
        refine Ol.p mvs ?_
        refine Ol.p mvi ?_
        refine Ol.p (ixn (ix := k) sl_L_api_Edge (Som.row (i := 1) rfl (by omega))) ?_
        refine Ol.p (ldr (es := e.cells) ag_api_Edge (i := 1) rfl e.len (fun j u hu => edV_at he hu)) ?_
        refine Ol.x (bsn [e.val] sl_L_api_Edge zr_api_Edge (by intro v hv; cases hv with | head => rfl | tail _ h => cases h) rfl (by decide) (by decide)) ?_
        rintro _ _ ⟨g28, rfl, rfl⟩
        refine Ol.x (apn (i := 1) (n := n) (m := 1) sl_L_api_Edge zr_api_Edge rfl (by decide) rfl (Src.row (i := 0) rfl rfl) e.one1 (by unfold maxLen; omega) (by omega)) ?_
        rintro _ _ ⟨A2, c2, rfl, rfl⟩
        refine Ol.p ass ?_
        refine Ol.keep (.sub (.cons _ (List.Sublist.refl _))) ?_
        refine Ol.nil ?_
        refine ⟨A2, c2, n + 1, ?_, ⟨rfl, rfl, rfl, rfl, trivial⟩, ?_⟩
        · rw [hsn, if_pos h, List.length_append, ← hn]; rfl
        · rw [hsn, if_pos h, edV_app]
          rfl
      refine Cd.skip ?_
      refine ⟨A, c, n, ?_, ⟨rfl, rfl, rfl, rfl, trivial⟩, ?_⟩
      · rw [hsn, if_neg (by rw [h]; simp), List.append_nil]; exact hn
      · rw [hsn, if_neg (by rw [h]; simp), List.append_nil]
    rintro σ' _ ⟨A', c', n', hn', hs', rfl⟩
    refine Cd.has hs' ?_
    refine Cd.region ?_
    refine Ol.p mvi ?_
    refine Ol.p addi ?_
    refine Ol.p asi ?_
    refine Ol.nil ?_
    exact ⟨E.length - (k + 1), by omega, k + 1, A', c', n', rfl, by omega, hn', ⟨rfl, rfl, rfl, rfl, trivial⟩, rfl⟩
  have hke : k = E.length := by
    have := ge_of_ h
    omega
  refine Cd.exit (id := 0) ?_
  refine Cd.seq ?_
  refine Cd.region ?_
  refine Ol.p mvs ?_
  refine Ol.p ass ?_
  refine Ol.nil ?_
  rw [hke, List.take_length] at hn ⊢
  rw [← hn]
  exact Cd.ret ⟨.slice A n c, ret1 rfl rfl, _, .sub (.cons_cons _ (List.nil_sublist _)), A, c, rfl, rfl⟩
end
section
set_option maxHeartbeats 4000000 in
theorem ref10_Critical_ct {w : World} {f : RFun} (hf : FunAt w w.heap.size f) (hfit : Fit f) : Ct Tryz.prog 21 #[f.val] w (NewL 58 3 (someE f.terms (critE f.terms)).length (edV (someE f.terms (critE f.terms)))) := by
  refine Ct.mk Tryz.func21 rfl rfl ?_
  refine Cd.seq ?_
  refine Cd.region ?_
  refine Ol.x bxg ?_
  rintro _ _ ⟨g1, rfl, rfl⟩
  refine Ol.p ass ?_
  refine Ol.nil ?_
  refine Cd.seq ?_
  refine Cd.region ?_
  refine Ol.p ass ?_
  refine Ol.nil ?_
  refine Cd.seq ?_
  refine Cd.region ?_
  refine Ol.p (ldw (cs := f.cells.toArray) ag_api_Func (i := 0) rfl rfl) ?_
  refine Ol.x (sp_call (vs := [f.val]) en_ref10_Edges (fun M w' hh => ref10_Edges_ct (hf.now hh) hfit)) ?_
  rintro _ _ ⟨_, rfl, A10, c10, rfl, rfl⟩
  refine Ol.p ass ?_
  refine Ol.nil ?_
  have hE4 := someE_len_le f.terms fun _ => true
  obtain ⟨E, hE⟩ : ∃ E, E = someE f.terms fun _ => true := ⟨_, rfl⟩
  obtain ⟨cr, hcr⟩ : ∃ cr : Ed → Bool, cr = critE f.terms := ⟨_, rfl⟩
  have hres : someE f.terms (critE f.terms) = E.filter cr := by rw [hE, hcr]; exact someE_filter _ _
  have hcE : ∀ e ∈ E, cr e = (decide (1 < cnt (E.map Ed.to) e.to) && decide (1 < cnt (E.map Ed.src) e.src)) := fun e he => by
    have hcl : closed f.terms = true := by
      cases hc : closed f.terms with
      | true => rfl
      | false => rw [hE] at he; unfold someE at he; rw [hc] at he; cases he
    have : E = edges f.terms := by rw [hE]; unfold someE; rw [hcl]; simp
    rw [this, hcr]
    rfl
  rw [hres]
  rw [← hE] at hE4 ⊢
  refine Cd.nr 58 3 ?_
  refine Cd.keep (L' := [row (.slice none 0 0) 58 3 0 [], row (.slice A10 E.length c10) 58 3 E.length (edV E)]) (.sub (.cons_cons _ (.cons_cons _ (List.nil_sublist _)))) ?_
  refine Cd.seq ?_
  refine Cd.seq ?_
  refine Cd.region ?_
  refine Ol.p asi ?_
  refine Ol.nil ?_
  refine Cd.block ?_   -- 0
  refine Cd.loop (fun m σ L => ∃ (k : Nat) (A : Option Addr) (c n : Nat), m = E.length - k ∧ k ≤ E.length ∧ n = ((E.take k).filter cr).length ∧ Has σ [(3, .slice A n c), (4, .slice A10 E.length c10), (5, .int .i64 k)] ∧ [row (.slice A n c) 58 3 n (edV ((E.take k).filter cr)), row (.slice A10 E.length c10) 58 3 E.length (edV E)] = L) (n := E.length) ⟨0, none, 0, 0, rfl, Nat.zero_le _, rfl, ⟨rfl, rfl, rfl, trivial⟩, rfl⟩ ?_
  rintro _ σ L ⟨k, A, c, n, rfl, hk, hn, hs, rfl⟩
  refine Cd.has hs ?_
  clear hs
  refine Cd.seq ?_
  refine Cd.seq ?_
  refine Cd.region ?_
  refine Ol.p mvi ?_
  refine Ol.p mvs ?_
  refine Ol.p (lens sl_L_api_Edge) ?_
  refine Ol.p lsi ?_
  refine Ol.nil ?_
  refine Cd.cond rfl (fun h => ?_) (fun h => ?_)   -- $14
  · have hlt := lt_of h
    obtain ⟨e, he⟩ : ∃ e, E[k]? = some e := ⟨_, List.getElem?_eq_getElem hlt⟩
    have hto : (edV E)[k * 3 + 2]? = some (.int .i64 e.to) := edV_at he rfl
    have hsr : (edV E)[k * 3 + 0]? = some (.int .i64 e.src) := edV_at he rfl
    have hnk : n ≤ k := by rw [hn]; exact Nat.le_trans (List.length_filter_le _ _) (by simp; omega)
    have hsn : (E.take (k + 1)).filter cr = (E.take k).filter cr ++ (if cr e = true then [e] else []) := by
      rw [take_snoc_ he, List.filter_append]
      congr 1
      by_cases hp : cr e = true <;> simp [List.filter, hp]
    obtain ⟨rO, hrO⟩ : ∃ rO, rO = row (.slice A n c) 58 3 n (edV ((E.take k).filter cr)) := ⟨_, rfl⟩
    refine Cd.skip ?_
    refine Cd.mid (fun σ' L' => ∃ (A' : Option Addr) (c' n' : Nat), n' = ((E.take (k + 1)).filter cr).length ∧ Has σ' [(3, .slice A' n' c'), (4, .slice A10 E.length c10), (5, .int .i64 k)] ∧ [row (.slice A' n' c') 58 3 n' (edV ((E.take (k + 1)).filter cr)), row (.slice A10 E.length c10) 58 3 E.length (edV E)] = L') ?_ ?_
    · skip
      refine Cd.block ?_   -- 1
      refine Cd.seq ?_
      refine Cd.region ?_
      refine Ol.p asi ?_
      refine Ol.p asi ?_
      refine Ol.nil ?_
      refine Cd.seq ?_
      refine Cd.seq ?_
      refine Cd.region ?_
      refine Ol.p asi ?_
      refine Ol.nil ?_
      refine Cd.block ?_   -- 2
      rw [← hrO]
      refine Cd.loop (fun m σ L => ∃ q : Nat, m = E.length - q ∧ q ≤ E.length ∧ Has σ [(3, .slice A n c), (4, .slice A10 E.length c10), (5, .int .i64 k), (6, .int .i64 (cnt ((E.take q).map Ed.to) e.to : Nat)), (7, .int .i64 (cnt ((E.take q).map Ed.src) e.src : Nat)), (8, .int .i64 q)] ∧ [rO, row (.slice A10 E.length c10) 58 3 E.length (edV E)] = L) (n := E.length) ⟨0, rfl, Nat.zero_le _, ⟨rfl, rfl, rfl, rfl, rfl, rfl, trivial⟩, rfl⟩ ?_
      rintro _ σ L ⟨q, rfl, hq, hs, rfl⟩
      refine Cd.has hs ?_
      clear hs
      refine Cd.seq ?_
      refine Cd.seq ?_
      refine Cd.region ?_
      refine Ol.p mvi ?_
      refine Ol.p mvs ?_
      refine Ol.p (lens sl_L_api_Edge) ?_
      refine Ol.p lsi ?_
      refine Ol.nil ?_
      refine Cd.cond rfl (fun h => ?_) (fun h => ?_)   -- $20
      · have hlq := lt_of h
        obtain ⟨x, hx⟩ : ∃ x, E[q]? = some x := ⟨_, List.getElem?_eq_getElem hlq⟩
        have hxt : (edV E)[q * 3 + 2]? = some (.int .i64 x.to) := edV_at hx rfl
        have hxs : (edV E)[q * 3 + 0]? = some (.int .i64 x.src) := edV_at hx rfl
        have c1 : cnt ((E.take (q + 1)).map Ed.to) e.to = cnt ((E.take q).map Ed.to) e.to + (if x.to = e.to then 1 else 0) := cnt_snoc hx _
        have c2 : cnt ((E.take (q + 1)).map Ed.src) e.src = cnt ((E.take q).map Ed.src) e.src + (if x.src = e.src then 1 else 0) := cnt_snoc hx _
        have b1 : cnt ((E.take q).map Ed.to) e.to ≤ q := cnt_le _ _
        have b2 : cnt ((E.take q).map Ed.src) e.src ≤ q := cnt_le _ _
        obtain ⟨ci, hci⟩ : ∃ ci, ci = cnt ((E.take q).map Ed.to) e.to := ⟨_, rfl⟩
        obtain ⟨cf, hcf⟩ : ∃ cf, cf = cnt ((E.take q).map Ed.src) e.src := ⟨_, rfl⟩
        rw [← hci] at c1 b1 ⊢
        rw [← hcf] at c2 b2 ⊢
        refine Cd.skip ?_
        refine Cd.mid (fun σ' L' => Has σ' [(3, .slice A n c), (4, .slice A10 E.length c10), (5, .int .i64 k), (6, .int .i64 (cnt ((E.take (q + 1)).map Ed.to) e.to : Nat)), (7, .int .i64 (cnt ((E.take (q + 1)).map Ed.src) e.src : Nat)), (8, .int .i64 q)] ∧ [rO, row (.slice A10 E.length c10) 58 3 E.length (edV E)] = L') ?_ ?_
        · skip
          refine Cd.block ?_   -- 3
          refine Cd.mid (fun σ' L' => Has σ' [(3, .slice A n c), (4, .slice A10 E.length c10), (5, .int .i64 k), (6, .int .i64 (cnt ((E.take (q + 1)).map Ed.to) e.to : Nat)), (7, .int .i64 (cf : Nat)), (8, .int .i64 q)] ∧ [rO, row (.slice A10 E.length c10) 58 3 E.length (edV E)] = L') ?_ ?_
          · skip
            refine Cd.seq ?_
            refine Cd.draw mixed 11 (fun _ => none) (fun _ => []) (by kernel_rfl) (fun _ _ h => by cases h) (fun u hu => ?_)
            refine Wk.p mvs ?_
            refine Wk.p mvi ?_
            refine Wk.p (ixn (ix := q) sl_L_api_Edge (Som.row (i := 1) rfl (by omega))) ?_
            refine Wk.p (fdp fd_api_Edge_2) ?_
            refine Wk.p (ld (v := .int .i64 x.to) one_int (Rd.row (i := 1) rfl hxt)) ?_
            refine Wk.p mvs ?_
            refine Wk.p mvi ?_
            refine Wk.p (ixn (ix := k) sl_L_api_Edge (Som.row (i := 1) rfl (by omega))) ?_
            refine Wk.p (fdp fd_api_Edge_2) ?_
            refine Wk.p (ld (v := .int .i64 e.to) one_int (Rd.row (i := 1) rfl hto)) ?_
            refine Wk.p eqi ?_
            refine Wk.nil ?_
            refine Ol.nil ?_
            refine Cd.cond rfl (fun h => ?_) (fun h => ?_)   -- $33
            · have h : decide (x.to = e.to) = true := h
              have hh := of_decide_eq_true h
              rw [if_pos hh] at c1
              rw [c1]
              refine Cd.region ?_
              refine Ol.p mvi ?_
              refine Ol.p addi ?_
              refine Ol.p asi ?_
              refine Ol.nil ?_
              exact ⟨⟨rfl, rfl, rfl, rfl, rfl, rfl, trivial⟩, rfl⟩
            have h : decide (x.to = e.to) = false := h
            have hh := of_decide_eq_false h
            rw [if_neg hh] at c1
            rw [c1]
            refine Cd.skip ?_
            exact ⟨⟨rfl, rfl, rfl, rfl, rfl, rfl, trivial⟩, rfl⟩
          rintro σ' _ ⟨hs', rfl⟩
          refine Cd.has hs' ?_
          clear hs'
          refine Cd.seq ?_
          refine Cd.draw mixed 11 (fun _ => none) (fun _ => []) (by kernel_rfl) (fun _ _ h => by cases h) (fun u hu => ?_)
          refine Wk.p mvs ?_
          refine Wk.p mvi ?_
          refine Wk.p (ixn (ix := q) sl_L_api_Edge (Som.row (i := 1) rfl (by omega))) ?_
          refine Wk.p (fdp fd_api_Edge_0) ?_
          refine Wk.p (ld (v := .int .i64 x.src) one_int (Rd.row (i := 1) rfl hxs)) ?_
          refine Wk.p mvs ?_
          refine Wk.p mvi ?_
          refine Wk.p (ixn (ix := k) sl_L_api_Edge (Som.row (i := 1) rfl (by omega))) ?_
          refine Wk.p (fdp fd_api_Edge_0) ?_
          refine Wk.p (ld (v := .int .i64 e.src) one_int (Rd.row (i := 1) rfl hsr)) ?_
          refine Wk.p eqi ?_
          refine Wk.nil ?_
          refine Ol.nil ?_
          refine Cd.cond rfl (fun h => ?_) (fun h => ?_)   -- $46
          · have h : decide (x.src = e.src) = true := h
            have hh := of_decide_eq_true h
            rw [if_pos hh] at c2
            rw [c2]
            refine Cd.region ?_
            refine Ol.p mvi ?_
            refine Ol.p addi ?_
            refine Ol.p asi ?_
            refine Ol.nil ?_
            exact ⟨⟨rfl, rfl, rfl, rfl, rfl, rfl, trivial⟩, rfl⟩
          have h : decide (x.src = e.src) = false := h
          have hh := of_decide_eq_false h
          rw [if_neg hh] at c2
          rw [c2]
          refine Cd.skip ?_
          exact ⟨⟨rfl, rfl, rfl, rfl, rfl, rfl, trivial⟩, rfl⟩
        rintro σ' _ ⟨hs', rfl⟩
        refine Cd.has hs' ?_
        refine Cd.region ?_
        refine Ol.p mvi ?_
        refine Ol.p addi ?_
        refine Ol.p asi ?_
        refine Ol.nil ?_
        exact ⟨E.length - (q + 1), by omega, q + 1, rfl, by omega, ⟨rfl, rfl, rfl, rfl, rfl, rfl, trivial⟩, rfl⟩
      have hqe : q = E.length := by
        have := ge_of_ h
        omega
      rw [hqe, List.take_length]
      have hce := hcE e (List.mem_of_getElem? he)
      refine Cd.exit (id := 2) ?_
      refine Cd.mid (fun σ' L' => Has σ' [(3, .slice A n c), (4, .slice A10 E.length c10), (5, .int .i64 k), (54, .bool (cr e))] ∧ [rO, row (.slice A10 E.length c10) 58 3 E.length (edV E)] = L') ?_ ?_
      · cases g2 : decide ((1 : Int) < ((cnt (E.map Ed.to) e.to : Nat) : Int)) with
        | true =>
          refine Cd.region ?_
          refine Ol.p mvi ?_
          refine Ol.p gti ?_
          refine Ol.p mvb ?_
          refine Ol.gp g2 mvi ?_
          refine Ol.gp g2 gti ?_
          refine Ol.p (pkTb g2) ?_
          refine Ol.nil ?_
          refine ⟨⟨rfl, rfl, rfl, congrArg Value.bool ?_, trivial⟩, rfl⟩
          have g := of_decide_eq_true g2
          rw [hce, decide_eq_true (by omega : 1 < cnt (E.map Ed.to) e.to), Bool.true_and]
          exact decide_eq_decide.2 (by omega)
        | false =>
          refine Cd.region ?_
          refine Ol.p mvi ?_
          refine Ol.p gti ?_
          refine Ol.p mvb ?_
          refine Ol.gn g2 ?_
          refine Ol.gn g2 ?_
          refine Ol.p (pkFb g2) ?_
          refine Ol.nil ?_
          refine ⟨⟨rfl, rfl, rfl, congrArg Value.bool ?_, trivial⟩, rfl⟩
          have g := of_decide_eq_false g2
          rw [hce, decide_eq_false (by omega : ¬ 1 < cnt (E.map Ed.to) e.to), Bool.false_and]
      rintro σ' _ ⟨hs', rfl⟩
      refine Cd.has hs' ?_
      clear hs'
      subst hrO
      refine Cd.cond rfl (fun h => ?_) (fun h => ?_)   -- $54
      · have h : cr e = true := h
        refine Cd.region ?_
        refine Ol.p mvs ?_
        refine Ol.p mvs ?_
        refine Ol.p mvi ?_
        refine Ol.p (ixn (ix := k) sl_L_api_Edge (Som.row (i := 1) rfl (by omega))) ?_
        refine Ol.p (ldr (es := e.cells) ag_api_Edge (i := 1) rfl e.len (fun j u hu => edV_at he hu)) ?_
        refine Ol.x (bsn [e.val] sl_L_api_Edge zr_api_Edge (by intro v hv; cases hv with | head => rfl | tail _ h => cases h) rfl (by decide) (by decide)) ?_
        rintro _ _ ⟨g60, rfl, rfl⟩
        refine Ol.x (apn (i := 1) (n := n) (m := 1) sl_L_api_Edge zr_api_Edge rfl (by decide) rfl (Src.row (i := 0) rfl rfl) e.one1 (by unfold maxLen; omega) (by omega)) ?_
        rintro _ _ ⟨A2, c2, rfl, rfl⟩
        refine Ol.p ass ?_
        refine Ol.keep (.sub (.cons _ (List.Sublist.refl _))) ?_
        refine Ol.nil ?_
        refine ⟨A2, c2, n + 1, ?_, ⟨rfl, rfl, rfl, trivial⟩, ?_⟩
        · rw [hsn, if_pos h, List.length_append, ← hn]; rfl
        · rw [hsn, if_pos h, edV_app]
          rfl
      have h : cr e = false := h
      refine Cd.skip ?_
      refine ⟨A, c, n, ?_, ⟨rfl, rfl, rfl, trivial⟩, ?_⟩
      · rw [hsn, if_neg (by rw [h]; simp), List.append_nil]; exact hn
      · rw [hsn, if_neg (by rw [h]; simp), List.append_nil]
    rintro σ' _ ⟨A', c', n', hn', hs', rfl⟩
    refine Cd.has hs' ?_
    refine Cd.region ?_
    refine Ol.p mvi ?_
    refine Ol.p addi ?_
    refine Ol.p asi ?_
    refine Ol.nil ?_
    exact ⟨E.length - (k + 1), by omega, k + 1, A', c', n', rfl, by omega, hn', ⟨rfl, rfl, rfl, trivial⟩, rfl⟩
  have hke : k = E.length := by
    have := ge_of_ h
    omega
  refine Cd.exit (id := 0) ?_
  refine Cd.seq ?_
  refine Cd.region ?_
  refine Ol.p mvs ?_
  refine Ol.p ass ?_
  refine Ol.nil ?_
  rw [hke, List.take_length] at hn ⊢
  rw [← hn]
  exact Cd.ret ⟨.slice A n c, ret1 rfl rfl, _, .sub (.cons_cons _ (List.nil_sublist _)), A, c, rfl, rfl⟩
end
end Go.Proofs.YtkefmjhagmacfaaGreatDoor

/- The package flow: what is reached, walked. -/
namespace Go.Proofs.YtkefmjhagmacfaaGreatDoor
set_option linter.unusedVariables false
open Go Go.RowKit
set_option maxRecDepth 100000

theorem enc_ne {s t : Nat} (hs : Sm s) (ht : Sm t) : decide (s = t) = true ↔ enc s = enc t := enc_iff hs ht
theorem intsN_get {l : List Nat} {k n : Nat} (h : l[k]? = some n) : (intsN l)[k]? = some (.int .i64 (n : Int)) := by simp [intsN, h]
theorem toAt_i64 {f : RFun} (hfit : Fit f) {b : RBlk} (hb : b ∈ f.blocks) : ∀ n ∈ toL b.term, I64 n := fun n hn => by
  unfold I64
  rcases toL_mem hn with e | e
  · exact hfit.term b hb _ (by simp [e])
  · exact hfit.term b hb _ (by simp [e])
section
set_option maxHeartbeats 2000000 in
theorem flow_Reached_ct {w : World} {f : RFun} {A1 A2 : Option Addr} {c1 c2 : Nat} {fr nt : List Int} (hT : Tabs w w.heap.size) (hf : FunAt w w.heap.size f) (hfit : Fit f) (hfr : Reads w w.heap.size 1 A1 fr.length (ints fr)) (hnt : Reads w w.heap.size 1 A2 nt.length (ints nt))
    (hi1 : ∀ n ∈ fr, I64 n) (hi2 : ∀ n ∈ nt, I64 n) (hl1 : fr.length < 2 ^ 60) (hl2 : nt.length < 2 ^ 60) :
    Ct Tryz.prog 23 #[f.val, .slice A1 fr.length c1, .slice A2 nt.length c2] w (NewL 3 1 (reachedF f.terms fr nt).length (intsN (reachedF f.terms fr nt))) := by
  have hbl := hfit.blen
  have htl : f.terms.length = f.blocks.length := by simp [RFun.terms]
  refine Ct.mk Tryz.func23 rfl rfl ?_
  refine Cd.seq ?_
  refine Cd.region ?_
  refine Ol.x bxg ?_
  rintro _ _ ⟨g3, rfl, rfl⟩
  refine Ol.p ass ?_
  refine Ol.nil ?_
  refine Cd.seq ?_
  refine Cd.seq ?_
  refine Cd.region ?_
  refine Ol.p (ldw ag_api_Func (i := 0) rfl rfl) ?_
  refine Ol.s (cl en_flow_Closed (fun M w' hh => flow_Closed_ct (hf.now hh) hfit)) ?_
  refine Ol.p noti ?_
  refine Ol.nil ?_
  refine Cd.cond rfl (fun h => ?_) (fun h => ?_)
  · have hcl : closed f.terms = false := by simpa using h
    have e : reachedF f.terms fr nt = [] := by unfold reachedF; rw [hcl]; rfl
    rw [e]
    refine Cd.seq ?_
    refine Cd.region ?_
    refine Ol.p ass ?_
    refine Ol.nil ?_
    refine Cd.nr 3 1 ?_
    refine Cd.ret ⟨.slice none 0 0, ret1 rfl rfl, _, .sub (.cons_cons _ (.cons _ .slnil)), none, 0, rfl, rfl⟩
  have hcl : closed f.terms = true := by simpa using h
  obtain ⟨hpos, hmax, hedge⟩ := closed_len hcl
  rw [htl] at hpos hmax
  obtain ⟨op, hop⟩ : ∃ op, op = lessL (allS f.blocks.length) nt := ⟨_, rfl⟩
  obtain ⟨s0, hs0⟩ : ∃ s0, s0 = op &&& ofL fr := ⟨_, rfl⟩
  have hopsm : Sm op := by rw [hop]; exact lessL_sm (allS_sm (by omega))
  have hopn : ∀ i, op.testBit i = true → i < f.blocks.length := fun i hi => by
    rw [hop, testBit_lessL, testBit_allS _ _ (by omega)] at hi
    simp only [Bool.and_eq_true, decide_eq_true_eq] at hi
    exact hi.1
  have hs0op : Sub s0 op := fun i hi => by
    rw [hs0, Nat.testBit_and] at hi
    simp only [Bool.and_eq_true] at hi
    exact hi.1
  have e : reachedF f.terms fr nt = listS (reachS f.terms op s0) := by unfold reachedF; rw [hcl, hs0, hop, htl]; rfl
  rw [e]
  refine Cd.skip ?_
  refine Cd.seq ?_
  refine Cd.region ?_
  refine Ol.x (alc zr_bits_Set) ?_
  rintro _ _ ⟨g7, rfl, rfl⟩
  refine Ol.nil ?_
  refine Cd.seq ?_
  refine Cd.seq ?_
  refine Cd.region ?_
  refine Ol.p (fdl fd_api_Func_1) ?_
  refine Ol.p (ld one_L_api_Block (Rd.blk (i := 1) rfl rfl)) ?_
  refine Ol.p (lens sl_L_api_Block) ?_
  refine Ol.p mvi ?_
  refine Ol.nil ?_
  refine Cd.block ?_
  refine Cd.loop (fun m σ L => ∃ k, m = f.blocks.length - k ∧ k ≤ f.blocks.length ∧ Has σ [(1, .slice A1 fr.length c1), (2, .slice A2 nt.length c2), (3, .pointer (some ⟨g3, 0, none⟩)), (7, .pointer (some ⟨g7, 0, none⟩)), (19, .int .i64 f.blocks.length), (20, .int .i64 k)] ∧ L = [blk g7 (.cells (enc (allS k)) 70), blk g3 (.cells f.cells.toArray 25)]) (n := f.blocks.length) ⟨0, rfl, Nat.zero_le _, ⟨rfl, rfl, rfl, rfl, rfl, rfl, trivial⟩, by rw [show allS 0 = 0 from rfl, enc0]; rfl⟩ ?_
  rintro _ σ L ⟨k, rfl, hk, hs, rfl⟩
  refine Cd.has hs ?_
  refine Cd.seq ?_
  refine Cd.region ?_
  refine Ol.p lsi ?_
  refine Ol.nil ?_
  refine Cd.seq ?_
  refine Cd.cond rfl (fun h => ?_) (fun h => ?_)
  · have hlt : k < f.blocks.length := by simpa using h
    refine Cd.skip ?_
    refine Cd.seq ?_
    refine Cd.block ?_
    refine Cd.seq ?_
    refine Cd.region ?_
    refine Ol.p mvi ?_
    refine Ol.p asi ?_
    refine Ol.nil ?_
    refine Cd.region ?_
    refine Ol.p (ldw ag_bits_Set (i := 0) rfl (enc_size _)) ?_
    refine Ol.p mvi ?_
    refine Ol.x (bsv [.int .i64 (k : Int)] sl_L_int zr_int (by simp [Value.cells])) ?_
    rintro _ _ ⟨g25, rfl, rfl⟩
    refine Ol.s (cl en_bits_Set_With (fun M w' hh => bits_Set_With_ct (s := allS k) (l := [(k : Int)]) (Reads.row hh (i := 0) rfl) (by intro n hn; simp at hn; subst hn; unfold I64; omega) (by simp))) ?_
    refine Ol.s (stw sz_bits_Set (enc_size _) (encF_one _) (i := 1) rfl (enc_size _)) ?_
    refine Ol.keep (.sub (.cons _ (List.Sublist.refl _))) ?_
    refine Ol.nil ?_
    refine Cd.region ?_
    refine Ol.p addi ?_
    refine Ol.p mvi ?_
    refine Ol.nil ?_
    refine ⟨f.blocks.length - (k + 1), by omega, k + 1, rfl, by omega, ⟨rfl, rfl, rfl, rfl, rfl, rfl, trivial⟩, ?_⟩
    rw [allS_succ]
    rfl
  have hge : k = f.blocks.length := by
    have : ¬ (k : Int) < f.blocks.length := by simpa using h
    omega
  subst hge
  refine Cd.exit (id := 0) ?_
  refine Cd.seq ?_
  refine Cd.region ?_
  refine Ol.p (ldw ag_bits_Set (i := 0) rfl (enc_size _)) ?_
  refine Ol.p mvs ?_
  refine Ol.s (cl en_bits_Set_Without (fun M w' hh => bits_Set_Without_ct (s := allS f.blocks.length) (l := nt) (hnt.now hh) hi2 (by omega))) ?_
  refine Ol.x (alc zr_bits_Set) ?_
  rintro _ _ ⟨g9, rfl, rfl⟩
  refine Ol.s (stw sz_bits_Set (enc_size _) (encF_one _) (i := 0) rfl rfl) ?_
  refine Ol.keep (.sub (.cons_cons _ (.cons _ (List.Sublist.refl _)))) ?_
  refine Ol.nil ?_
  rw [← hop]
  refine Cd.seq ?_
  refine Cd.draw mixed 5 (fun j => match j with | 2 => some (Is (.agg (enc (ofL fr)))) | 3 => some (Is (.agg (enc (op &&& ofL fr)))) | 4 => some (NewPv (.cells #[.int .u64 0, .int .u64 0, .int .u64 0, .int .u64 0, .int .u64 0, .int .u64 0, .int .u64 0, .int .u64 0, .int .u64 0, .int .u64 0, .int .u64 0, .int .u64 0, .int .u64 0, .int .u64 0, .int .u64 0, .int .u64 0] 70)) | _ => none) (fun _ => []) (by kernel_rfl) (by intro j V h; split at h <;> cases h; exact ⟨_, [], rfl, rfl⟩; exact ⟨_, [], rfl, rfl⟩; exact ⟨_, _, 0, rfl, rfl⟩) (fun u hu => ?_)
  refine Wk.p (ldw ag_bits_Set (i := 0) rfl (enc_size _)) ?_
  refine Wk.p mvs ?_
  refine Wk.x hu (sp_call en_bits_Of (fun M w' hh => bits_Of_ct (l := fr) (hfr.now hh) hi1 (by omega))) ?_
  rintro _ _ hu2 ⟨rfl, rfl⟩
  refine Wk.x hu (sp_call en_bits_Set_And (fun M w' hh => bits_Set_And_ct (s := op) (t := ofL fr))) ?_
  rintro _ _ hu3 ⟨rfl, rfl⟩
  refine Wk.x hu (NewP.adds (alc zr_bits_Set)) ?_
  rintro _ _ hu4 ⟨g10, rfl, rfl⟩
  refine Wk.nil ?_
  rw [needs_cons hu4, needs_cons hu3, needs_cons hu2, needs_none, ← hs0]
  refine Ol.s (stw sz_bits_Set (enc_size _) (encF_one _) (i := 0) rfl rfl) ?_
  refine Ol.nil ?_
  refine Cd.block ?_
  refine Cd.loop (fun m σ L => ∃ k g, m = 1025 - (listS (iterF (stepS f.terms op) k s0)).length ∧ k ≤ (listS (iterF (stepS f.terms op) k s0)).length ∧ Has σ [(3, .pointer (some ⟨g3, 0, none⟩)), (9, .pointer (some ⟨g9, 0, none⟩)), (10, .pointer (some ⟨g, 0, none⟩))] ∧ Sub (iterF (stepS f.terms op) k s0) op ∧ L = [blk g (.cells (enc (iterF (stepS f.terms op) k s0)) 70), blk g9 (.cells (enc op) 70), blk g3 (.cells f.cells.toArray 25)]) (n := 1025 - (listS s0).length) ⟨0, g10, rfl, Nat.zero_le _, ⟨rfl, rfl, rfl, trivial⟩, hs0op, rfl⟩ ?_
  rintro _ σ L ⟨k, g, rfl, hk, hs, hsub, rfl⟩
  obtain ⟨at_, hat⟩ : ∃ s, s = iterF (stepS f.terms op) k s0 := ⟨_, rfl⟩
  rw [← hat] at hk hsub ⊢
  have hatsm : Sm at_ := hsub.sm hopsm
  have hlen := listS_len_le at_
  refine Cd.has hs ?_
  refine Cd.mid (fun σ' L' => ∃ ga gn, Has σ' [(3, .pointer (some ⟨g3, 0, none⟩)), (9, .pointer (some ⟨g9, 0, none⟩)), (10, .pointer (some ⟨ga, 0, none⟩))] ∧ stepS f.terms op at_ ≠ at_ ∧ L' = [blk gn (.cells (enc (stepS f.terms op at_)) 70), blk ga (.cells (enc (stepS f.terms op at_)) 70), blk g9 (.cells (enc op) 70), blk g3 (.cells f.cells.toArray 25)]) ?_ ?_
  · refine Cd.block ?_
    refine Cd.seq ?_
    refine Cd.region ?_
    refine Ol.p (ldw ag_bits_Set (i := 0) rfl (enc_size _)) ?_
    refine Ol.x (alc zr_bits_Set) ?_
    rintro _ _ ⟨g11, rfl, rfl⟩
    refine Ol.s (stw sz_bits_Set (enc_size _) (encF_one _) (i := 0) rfl rfl) ?_
    refine Ol.nil ?_
    refine Cd.seq ?_
    refine Cd.seq ?_
    refine Cd.region ?_
    refine Ol.p (ldw ag_bits_Set (i := 1) rfl (enc_size _)) ?_
    refine Ol.x (sp_call en_bits_Set_List (fun M w' hh => bits_Set_List_ct (s := at_) (hT.now hh))) ?_
    rintro _ _ ⟨_, rfl, A, c, rfl, rfl⟩
    refine Ol.p (lens sl_L_int) ?_
    refine Ol.p mvi ?_
    refine Ol.nil ?_
    refine Cd.block ?_
    refine Cd.loop (fun m σ L => ∃ j, m = (listS at_).length - j ∧ j ≤ (listS at_).length ∧ Has σ [(3, .pointer (some ⟨g3, 0, none⟩)), (9, .pointer (some ⟨g9, 0, none⟩)), (10, .pointer (some ⟨g, 0, none⟩)), (11, .pointer (some ⟨g11, 0, none⟩)), (37, .slice A (listS at_).length c), (38, .int .i64 (listS at_).length), (39, .int .i64 j)] ∧ L = [row (.slice A (listS at_).length c) 3 1 (listS at_).length (intsN (listS at_)), blk g11 (.cells (enc (nextL f.terms at_ ((listS at_).take j))) 70), blk g (.cells (enc at_) 70), blk g9 (.cells (enc op) 70), blk g3 (.cells f.cells.toArray 25)]) (n := (listS at_).length) ⟨0, rfl, Nat.zero_le _, ⟨rfl, rfl, rfl, rfl, rfl, rfl, rfl, trivial⟩, rfl⟩ ?_
    rintro _ σ L ⟨j, rfl, hj, hs, rfl⟩
    refine Cd.has hs ?_
    refine Cd.seq ?_
    refine Cd.region ?_
    refine Ol.p lsi ?_
    refine Ol.nil ?_
    refine Cd.seq ?_
    refine Cd.cond rfl (fun h => ?_) (fun h => ?_)
    · have hjl : j < (listS at_).length := by simpa using h
      obtain ⟨n, hn⟩ : ∃ n, (listS at_)[j]? = some n := ⟨_, List.getElem?_eq_getElem hjl⟩
      have hnb : n < f.blocks.length := hopn n (hsub n (mem_listS.1 (List.mem_of_getElem? hn)).2)
      obtain ⟨b, hb⟩ : ∃ b, f.blocks[n]? = some b := ⟨_, List.getElem?_eq_getElem hnb⟩
      have hbm := List.mem_of_getElem? hb
      have ht : f.terms[n]? = some b.term := by simp [RFun.terms, hb]
      have htl2 := toL_len b.term
      refine Cd.skip ?_
      refine Cd.seq ?_
      refine Cd.block ?_
      refine Cd.seq ?_
      refine Cd.region ?_
      refine Ol.p (ixn1 sl_L_int (Som.row (i := 0) rfl (by omega))) ?_
      refine Ol.p (ld one_int (Rd.row (i := 0) rfl (intsN_get hn))) ?_
      refine Ol.p asi ?_
      refine Ol.nil ?_
      refine Cd.draw mixed 9 (fun q => match q with | 7 => some (NewL 3 1 (toL b.term).length (ints (toL b.term))) | 8 => some (Is (.agg (enc (withL (nextL f.terms at_ ((listS at_).take j)) (toL b.term))))) | _ => none) (fun q => match q with | 8 => [7] | _ => []) (by kernel_rfl) (by intro q V h; split at h <;> cases h; exact ⟨_, _, none, 0, rfl, rfl⟩; exact ⟨_, [], rfl, rfl⟩) (fun u hu => ?_)
      refine Wk.p (ldw ag_bits_Set (i := 1) rfl (enc_size _)) ?_
      refine Wk.p (fdl fd_api_Func_1) ?_
      refine Wk.p (ld one_L_api_Block (Rd.blk (i := 4) rfl rfl)) ?_
      refine Wk.p mvi ?_
      refine Wk.p (ixn sl_L_api_Block (Som.slc hf.blocks (by omega))) ?_
      refine Wk.p (fdp fd_api_Block_1) ?_
      refine Wk.p (lds (es := b.term.cells) ag_api_Term hf.blocks rfl (fun q u hu => by rw [Nat.add_assoc, hf.cell hb (j := 1 + q) (by have := (List.getElem?_eq_some_iff.1 hu).1; simp [Tm.cells] at this; omega), Nat.add_comm]; simpa [RBlk.cells] using hu)) ?_
      refine Wk.x hu (sp_call en_ir_To (fun M' w' hh => ir_To_ct (t := b.term))) ?_
      rintro _ _ hu7 ⟨A7, c7, rfl, rfl⟩
      refine Wk.xn hu (l := [7]) rfl (by simp) (sp_call en_bits_Set_With (fun M' w' hh => bits_Set_With_ct (s := nextL f.terms at_ ((listS at_).take j)) (l := toL b.term) (by rw [needs_cons hu7] at hh; exact Reads.row hh (i := 0) rfl) (toAt_i64 hfit hbm) (by omega))) ?_
      rintro _ _ hu8 ⟨rfl, rfl⟩
      refine Wk.nil ?_
      rw [needs_cons hu8, needs_cons hu7, needs_none]
      refine Ol.s (stw sz_bits_Set (enc_size _) (encF_one _) (i := 2) rfl (enc_size _)) ?_
      refine Ol.keep (.sub (.cons _ (List.Sublist.refl _))) ?_
      refine Ol.nil ?_
      refine Cd.region ?_
      refine Ol.p addi ?_
      refine Ol.p mvi ?_
      refine Ol.nil ?_
      refine ⟨(listS at_).length - (j + 1), by omega, j + 1, rfl, by omega, ⟨rfl, rfl, rfl, rfl, rfl, rfl, rfl, trivial⟩, ?_⟩
      rw [nextL_snoc hn, toAt_some ht]
      rfl
    have hje : j = (listS at_).length := by
      have : ¬ (j : Int) < (listS at_).length := by simpa using h
      omega
    subst hje
    rw [List.take_length]
    refine Cd.exit (id := 4) ?_
    refine Cd.seq ?_
    refine Cd.seq ?_
    refine Cd.region ?_
    refine Ol.p (ldw ag_bits_Set (i := 1) rfl (enc_size _)) ?_
    refine Ol.p (ldw ag_bits_Set (i := 3) rfl (enc_size _)) ?_
    refine Ol.s (cl en_bits_Set_And (fun M w' hh => bits_Set_And_ct (s := nextL f.terms at_ (listS at_)) (t := op))) ?_
    refine Ol.s (stw sz_bits_Set (enc_size _) (encF_one _) (i := 1) rfl (enc_size _)) ?_
    refine Ol.nil ?_
    rw [show nextL f.terms at_ (listS at_) &&& op = stepS f.terms op at_ from rfl]
    refine Cd.seq ?_
    refine Cd.region ?_
    refine Ol.p (ldw ag_bits_Set (i := 1) rfl (enc_size _)) ?_
    refine Ol.p (ldw ag_bits_Set (i := 2) rfl (enc_size _)) ?_
    refine Ol.p (eqa cm_bits_Set (enc_size _) (enc_size _) encF_tell (enc_ne (stepS_sm hatsm) hatsm)) ?_
    refine Ol.nil ?_
    refine Cd.cond rfl (fun h => ?_) (fun h => ?_)
    · have hfix : stepS f.terms op at_ = at_ := by simpa using h
      have er : reachS f.terms op s0 = at_ := by
        unfold reachS
        rw [iter_fix (k := k) (by rw [← hat]; exact hfix) 1025 (by omega), ← hat]
      rw [er]
      refine Cd.seq ?_
      refine Cd.region ?_
      refine Ol.p (ldw ag_bits_Set (i := 2) rfl (enc_size _)) ?_
      refine Ol.x (sp_call en_bits_Set_List (fun M w' hh => bits_Set_List_ct (s := at_) (hT.now hh))) ?_
      rintro _ _ ⟨_, rfl, A', c', rfl, rfl⟩
      refine Ol.p ass ?_
      refine Ol.nil ?_
      refine Cd.ret ⟨.slice _ _ _, ret1 rfl rfl, _, .sub (.cons_cons _ (List.nil_sublist _)), A', c', rfl, rfl⟩
    · have hne : stepS f.terms op at_ ≠ at_ := by simpa using h
      refine Cd.skip ?_
      refine Cd.region ?_
      refine Ol.p (ldw ag_bits_Set (i := 1) rfl (enc_size _)) ?_
      refine Ol.s (stw sz_bits_Set (enc_size _) (encF_one _) (i := 2) rfl rfl) ?_
      refine Ol.keep (.sub (.cons _ (List.Sublist.refl _))) ?_
      refine Ol.nil ?_
      exact ⟨g, g11, ⟨rfl, rfl, rfl, trivial⟩, hne, rfl⟩
  · rintro σ' _ ⟨ga, gn, hs', hne, rfl⟩
    refine Cd.has hs' ?_
    refine Cd.seq ?_
    refine Cd.region ?_
    refine Ol.p (ldw ag_bits_Set (i := 1) rfl (enc_size _)) ?_
    refine Ol.nil ?_
    refine Cd.region ?_
    refine Ol.x (alc zr_bits_Set) ?_
    rintro _ _ ⟨g10, rfl, rfl⟩
    refine Ol.s (stw sz_bits_Set (enc_size _) (encF_one _) (i := 0) rfl rfl) ?_
    refine Ol.keep (.sub (.cons_cons _ (.cons _ (.cons _ (List.Sublist.refl _))))) ?_
    refine Ol.nil ?_
    have hgrow := listS_lt (sub_step (ts := f.terms) hsub) (stepS_sm hatsm) (fun e => hne e.symm)
    have hlen2 := listS_len_le (stepS f.terms op at_)
    have hit : iterF (stepS f.terms op) (k + 1) s0 = stepS f.terms op at_ := by rw [hat]; rfl
    refine ⟨1025 - (listS (stepS f.terms op at_)).length, by omega, k + 1, g10, by rw [hit], by rw [hit]; omega, ⟨rfl, rfl, rfl, trivial⟩, by rw [hit]; exact step_sub _ _ _, by rw [hit]⟩
end
end Go.Proofs.YtkefmjhagmacfaaGreatDoor

/- The package flow: the order of blocks, walked. -/
namespace Go.Proofs.YtkefmjhagmacfaaGreatDoor
set_option linter.unusedVariables false
open Go Go.RowKit
set_option maxRecDepth 100000

theorem foldl_snoc {α β : Type} {f : β → α → β} {l : List α} {k : Nat} {x : α} {a : β} (h : l[k]? = some x) : (l.take (k + 1)).foldl f a = f ((l.take k).foldl f a) x := by
  rw [take_snoc_ h, List.foldl_append]; rfl
section
/-- What the walk in depth owns, and turns. -/
def LL (f : RFun) (gG gF gT gN gO gr : Nat) (st : Dst) : List Res :=
  [blk gG (.cells (enc st.1) 70), blk gF (.cells f.cells.toArray 25), blk gT (.cells #[.func (.func 57) #[] #[.pointer (some ⟨gG, 0, none⟩), .pointer (some ⟨gF, 0, none⟩), .pointer (some ⟨gT, 0, none⟩), .pointer (some ⟨gN, 0, none⟩), .pointer (some ⟨gO, 0, none⟩)]] 71),
   blk gN (.cells #[.int .i64 ((f.blocks.length - st.2.length : Nat) : Int)] 3), blk gO (.cells #[.slice (some ⟨gr, 0, none⟩) f.blocks.length f.blocks.length] 22), blk gr (.cells (outC f.blocks.length st.2) 3)]
/-- What is kept on the way. -/
structure Inv (n d : Nat) (st : Dst) : Prop where
  sm : Sm st.1
  len : st.2.length + d ≤ card st.1 n
set_option maxHeartbeats 1000000 in
theorem flow_Order_1_cm {w0 : World} {B : Nat} {f : RFun} {gG gF gT gN gO gr : Nat} (hf : FunAt w0 B f) (hfit : Fit f) (hcl : closed f.terms = true) : ∀ (fuel : Nat) (st : Dst) (d b : Nat), f.blocks.length - card st.1 f.blocks.length < fuel → Inv f.blocks.length d st → b < f.blocks.length →
    Cm Tryz.prog 57 #[.int .i64 (b : Int), .pointer (some ⟨gG, 0, none⟩), .pointer (some ⟨gF, 0, none⟩), .pointer (some ⟨gT, 0, none⟩), .pointer (some ⟨gN, 0, none⟩), .pointer (some ⟨gO, 0, none⟩)] w0 B (LL f gG gF gT gN gO gr st)
      (fun v L => v = .tuple #[] ∧ L = LL f gG gF gT gN gO gr (dfs f.terms fuel b st) ∧ Inv f.blocks.length d (dfs f.terms fuel b st) ∧ Sub st.1 (dfs f.terms fuel b st).1) := by
  have htl : f.terms.length = f.blocks.length := by simp [RFun.terms]
  obtain ⟨hpos, hmax, hedge⟩ := closed_len hcl
  rw [htl] at hpos hmax
  intro fuel
  induction fuel with
  | zero => intro st d b h; omega
  | succ fuel ih =>
    intro st d b hfuel hinv hb
    obtain ⟨bl, hbl⟩ : ∃ x, f.blocks[b]? = some x := ⟨_, List.getElem?_eq_getElem hb⟩
    have hbm := List.mem_of_getElem? hbl
    have ht : f.terms[b]? = some bl.term := by simp [RFun.terms, hbl]
    have hcard := card_le st.1 f.blocks.length
    refine Cm.mk Tryz.func57 rfl rfl fun M => ?_
    unfold LL
    refine Cd.seq ?_
    refine Cd.seq ?_
    refine Cd.region ?_
    refine Ol.p (ldw ag_bits_Set (i := 0) rfl (enc_size _)) ?_
    refine Ol.p mvi ?_
    refine Ol.s (cl en_bits_Set_Has (fun M w' hh => bits_Set_Has_ct (s := st.1) (n := (b : Int)) (by unfold I64; omega))) ?_
    refine Ol.nil ?_
    have hok : okN (b : Int) = true := by rw [okN_iff]; omega
    have hmb : memb st.1 (b : Int) = st.1.testBit b := by unfold memb; rw [hok]; rfl
    rw [hmb]
    refine Cd.cond rfl (fun h => ?_) (fun h => ?_)
    · have e : dfs f.terms (fuel + 1) b st = st := by simp only [dfs, h, cond_true]
      rw [e]
      exact Cd.ret ⟨_, ret0 rfl, _, .all, rfl, rfl, hinv, Sub.refl _⟩
    refine Cd.skip ?_
    obtain ⟨s1, hs1⟩ : ∃ s1, s1 = withL st.1 [(b : Int)] := ⟨_, rfl⟩
    have hsm1 : Sm s1 := by rw [hs1]; exact withL_sm hinv.sm
    have hgrow : card st.1 f.blocks.length < card s1 f.blocks.length := by rw [hs1]; exact card_with1 hb (by omega) h
    have hcard1 := card_le s1 f.blocks.length
    obtain ⟨to, hto⟩ : ∃ to, to = toL bl.term := ⟨_, rfl⟩
    have htoL : to.length ≤ 2 := by rw [hto]; exact toL_len _
    obtain ⟨go, hgo⟩ : ∃ go : Nat → Dst, go = fun j => (to.take j).foldl (fun st t => dfs f.terms fuel t.toNat st) (s1, st.2) := ⟨_, rfl⟩
    have e : dfs f.terms (fuel + 1) b st = ((go to.length).1, b :: (go to.length).2) := by
      simp only [dfs, h, cond_false, toAt_some ht, hgo, List.take_length, hs1, hto]
    rw [e]
    refine Cd.seq ?_
    refine Cd.region ?_
    refine Ol.p (ldw ag_bits_Set (i := 0) rfl (enc_size _)) ?_
    refine Ol.p mvi ?_
    refine Ol.x (bsv [.int .i64 (b : Int)] sl_L_int zr_int (by simp [Value.cells])) ?_
    rintro _ _ ⟨g14, rfl, rfl⟩
    refine Ol.s (cl en_bits_Set_With (fun M w' hh => bits_Set_With_ct (s := st.1) (l := [(b : Int)]) (Reads.row hh (i := 0) rfl) (by intro n hn; simp at hn; subst hn; unfold I64; omega) (by simp))) ?_
    refine Ol.s (stw sz_bits_Set (enc_size _) (encF_one _) (i := 1) rfl (enc_size _)) ?_
    refine Ol.keep (.sub (.cons _ (List.Sublist.refl _))) ?_
    refine Ol.nil ?_
    rw [← hs1]
    refine Cd.seq ?_
    refine Cd.seq ?_
    refine Cd.region ?_
    refine Ol.p (fdl fd_api_Func_1) ?_
    refine Ol.p (ld one_L_api_Block (Rd.blk (i := 1) rfl rfl)) ?_
    refine Ol.p mvi ?_
    refine Ol.p (ixn sl_L_api_Block (Som.slc hf.blocks (by omega))) ?_
    refine Ol.p (fdp fd_api_Block_1) ?_
    refine Ol.p (lds (es := bl.term.cells) ag_api_Term hf.blocks rfl (fun q u hu => by rw [Nat.add_assoc, hf.cell hbl (j := 1 + q) (by have := (List.getElem?_eq_some_iff.1 hu).1; simp [Tm.cells] at this; omega), Nat.add_comm]; simpa [RBlk.cells] using hu)) ?_
    refine Ol.x (sp_call en_ir_To (fun M' w' hh => ir_To_ct (t := bl.term))) ?_
    rintro _ _ ⟨_, rfl, A, c, rfl, rfl⟩
    refine Ol.p (lens sl_L_int) ?_
    refine Ol.p mvi ?_
    refine Ol.nil ?_
    rw [← hto]
    refine Cd.block ?_
    refine Cd.loop (fun m σ L => ∃ j, m = to.length - j ∧ j ≤ to.length ∧ Has σ [(0, .int .i64 (b : Int)), (3, .pointer (some ⟨gT, 0, none⟩)), (4, .pointer (some ⟨gN, 0, none⟩)), (5, .pointer (some ⟨gO, 0, none⟩)), (22, .slice A to.length c), (23, .int .i64 to.length), (24, .int .i64 j)] ∧ L = [row (.slice A to.length c) 3 1 to.length (ints to)] ++ LL f gG gF gT gN gO gr (go j) ∧ Inv f.blocks.length (d + 1) (go j) ∧ Sub s1 (go j).1) (n := to.length) ⟨0, rfl, Nat.zero_le _, ⟨rfl, rfl, rfl, rfl, rfl, rfl, rfl, trivial⟩, by rw [hgo]; rfl, by rw [hgo]; exact ⟨hsm1, by have := hinv.len; show st.2.length + (d + 1) ≤ card s1 f.blocks.length; omega⟩, by rw [hgo]; exact Sub.refl _⟩ ?_
    rintro _ σ L ⟨j, rfl, hj, hs, rfl, hinv1, hsub1⟩
    refine Cd.has hs ?_
    refine Cd.seq ?_
    refine Cd.region ?_
    refine Ol.p lsi ?_
    refine Ol.nil ?_
    refine Cd.seq ?_
    refine Cd.cond rfl (fun h => ?_) (fun h => ?_)
    · have hjl : j < to.length := by simpa using h
      have hget := ints_get hjl
      have hte : (⟨(b : Int), (j : Int), to[j]⟩ : Ed) ∈ edges f.terms := mem_edges.2 ⟨b, j, bl.term, ht, by rw [← hto]; exact List.getElem?_eq_getElem hjl, rfl, rfl⟩
      have hrng := hedge _ hte
      rw [htl] at hrng
      obtain ⟨q, hq⟩ : ∃ q : Nat, to[j] = (q : Int) := ⟨to[j].toNat, by have : 0 ≤ to[j] := hrng.1; omega⟩
      have hqb : q < f.blocks.length := by have : to[j] < (f.blocks.length : Int) := hrng.2; rw [hq] at this; omega
      have hgo1 : go (j + 1) = dfs f.terms fuel q (go j) := by
        rw [hgo]
        show (to.take (j + 1)).foldl _ _ = _
        rw [foldl_snoc (List.getElem?_eq_getElem hjl), hq]; rfl
      have hfuel1 : f.blocks.length - card (go j).1 f.blocks.length < fuel := by have := card_mono (n := f.blocks.length) hsub1; omega
      rw [hq] at hget
      refine Cd.skip ?_
      refine Cd.seq ?_
      refine Cd.block ?_
      refine Cd.seq ?_
      refine Cd.region ?_
      refine Ol.p (ixn1 sl_L_int (Som.row (i := 0) rfl (by omega))) ?_
      refine Ol.p (ld one_int (Rd.row (i := 0) rfl hget)) ?_
      refine Ol.p asi ?_
      refine Ol.nil ?_
      refine Cd.region ?_
      refine Ol.p (ldv one_func_int (i := 3) rfl) ?_
      refine Ol.p mvi ?_
      refine Ol.x (sp_callvw (vs := [.int .i64 (q : Int)]) (L2 := [row (.slice A to.length c) 3 1 to.length (ints to)]) en_flow_Order_1 (ih (go j) (d + 1) q hfuel1 hinv1 hqb) List.perm_append_comm) ?_
      rintro _ _ ⟨_, rfl, rfl, rfl, hinv2, hsub2⟩
      refine Ol.keep Keep.comm ?_
      refine Ol.nil ?_
      refine Cd.region ?_
      refine Ol.p addi ?_
      refine Ol.p mvi ?_
      refine Ol.nil ?_
      rw [← hgo1] at hinv2 hsub2 ⊢
      exact ⟨to.length - (j + 1), by omega, j + 1, rfl, by omega, ⟨rfl, rfl, rfl, rfl, rfl, rfl, rfl, trivial⟩, rfl, hinv2, hsub1.trans hsub2⟩
    · have hje : j = to.length := by
        have : ¬ (j : Int) < to.length := by simpa using h
        omega
      subst hje
      have hl := hinv1.len
      have hcg := card_le (go to.length).1 f.blocks.length
      refine Cd.keep (L' := LL f gG gF gT gN gO gr (go to.length)) (.sub (.cons _ (List.Sublist.refl _))) ?_
      unfold LL
      refine Cd.exit (id := 0) ?_
      refine Cd.seq ?_
      refine Cd.region ?_
      refine Ol.p (ldv one_int (i := 3) rfl) ?_
      refine Ol.p subi ?_
      refine Ol.s (stv (v := .int .i64 ((f.blocks.length - ((go to.length).2.length + 1) : Nat) : Int)) sz_int (i := 3) rfl (by show Value.int .i64 _ = Value.int .i64 _; congr 1; omega)) ?_
      refine Ol.nil ?_
      refine Cd.region ?_
      refine Ol.p (ldv one_L_int (i := 4) rfl) ?_
      refine Ol.p (ldv one_int (i := 3) rfl) ?_
      refine Ol.p mvi ?_
      refine Ol.p (ixo1 (ix := f.blocks.length - ((go to.length).2.length + 1)) sl_L_int) ?_
      refine Ol.s (sto (k := f.blocks.length - ((go to.length).2.length + 1)) (v := .int .i64 (b : Int)) (.inr sz_int) rfl rfl (i := 5) rfl (by rw [outC_size (by omega)]; omega) rfl) ?_
      refine Ol.nil ?_
      refine ⟨_, ret0 rfl, _, .all, rfl, ?_, ⟨hinv1.sm, ?_⟩, ?_⟩
      · rw [← outC_cons (by omega)]
        rfl
      · show ((go to.length).2.length + 1) + d ≤ card (go to.length).1 f.blocks.length
        omega
      · rw [hs1] at hsub1
        exact (sub_with1 _ _).trans hsub1
set_option maxHeartbeats 1000000 in
/-- The same, its room not less than its length. -/
def PartQ (e n : Nat) (xs : List Value) : Value → List Res → Prop := fun v L => (n = 0 ∧ xs = [] ∧ v = .slice none 0 0 ∧ L = []) ∨ ∃ g k c cs, v = .slice (some ⟨g, k, none⟩) n c ∧ L = [blk g (.cells cs e)] ∧ xs.length = n ∧ (n ≤ c ∧ k + c ≤ cs.size) ∧ ∀ j u, xs[j]? = some u → cs[k + j]? = some u
theorem PartQ.part {e n : Nat} {xs : List Value} {v : Value} {L : List Res} (h : PartQ e n xs v L) : PartL e n xs v L := by
  rcases h with h | ⟨g, k, c, cs, h1, h2, h3, _, h4⟩
  · exact .inl h
  · exact .inr ⟨g, k, c, cs, h1, h2, h3, h4⟩
theorem flow_Order_ct2 {w : World} {f : RFun} (hf : FunAt w w.heap.size f) (hfit : Fit f) : Ct Tryz.prog 22 #[f.val] w (PartQ 3 (orderF f.terms).length (intsN (orderF f.terms))) := by
  have hbl := hfit.blen
  have htl : f.terms.length = f.blocks.length := by simp [RFun.terms]
  refine Ct.mk Tryz.func22 rfl rfl ?_
  refine Cd.seq ?_
  refine Cd.region ?_
  refine Ol.x bxg ?_
  rintro _ _ ⟨g1, rfl, rfl⟩
  refine Ol.p ass ?_
  refine Ol.nil ?_
  refine Cd.seq ?_
  refine Cd.seq ?_
  refine Cd.region ?_
  refine Ol.p (ldw ag_api_Func (i := 0) rfl rfl) ?_
  refine Ol.s (cl en_flow_Closed (fun M w' hh => flow_Closed_ct (hf.now hh) hfit)) ?_
  refine Ol.p noti ?_
  refine Ol.nil ?_
  refine Cd.cond rfl (fun h => ?_) (fun h => ?_)
  · have hcl : closed f.terms = false := by simpa using h
    have e : orderF f.terms = [] := by unfold orderF; rw [hcl]; rfl
    rw [e]
    refine Cd.seq ?_
    refine Cd.region ?_
    refine Ol.p ass ?_
    refine Ol.nil ?_
    exact Cd.ret ⟨.slice none 0 0, ret1 rfl rfl, [], .nil, .inl ⟨rfl, rfl, rfl, rfl⟩⟩
  have hcl : closed f.terms = true := by simpa using h
  obtain ⟨hpos, hmax, hedge⟩ := closed_len hcl
  rw [htl] at hpos hmax
  obtain ⟨st, hst⟩ : ∃ st, st = dfs f.terms (f.blocks.length + 1) 0 (0, []) := ⟨_, rfl⟩
  have eo : orderF f.terms = st.2 := by unfold orderF; rw [hcl, htl, hst]; rfl
  have hlen1 : 0 < st.2.length := by
    rw [hst]
    simp [dfs]
  rw [eo]
  refine Cd.skip ?_
  refine Cd.seq ?_
  refine Cd.region ?_
  refine Ol.x (alc zr_bits_Set) ?_
  rintro _ _ ⟨g3, rfl, rfl⟩
  refine Ol.nil ?_
  refine Cd.seq ?_
  refine Cd.region ?_
  refine Ol.p (fdl fd_api_Func_1) ?_
  refine Ol.p (ld one_L_api_Block (Rd.blk (i := 1) rfl rfl)) ?_
  refine Ol.p (lens sl_L_api_Block) ?_
  refine Ol.x (mks sl_L_int zr_int) ?_
  rintro _ _ ⟨gr, rfl, rfl⟩
  refine Ol.unrow fun cs hcs hcx => ?_
  have hcs' : cs = outC f.blocks.length [] := outC_nil _ hcs hcx
  rw [hcs']
  refine Ol.x (alc zr_L_int) ?_
  rintro _ _ ⟨g4, rfl, rfl⟩
  refine Ol.s (stv sz_L_int (i := 0) rfl rfl) ?_
  refine Ol.nil ?_
  refine Cd.seq ?_
  refine Cd.region ?_
  refine Ol.p (ldv one_L_int (i := 0) rfl) ?_
  refine Ol.p (lens sl_L_int) ?_
  refine Ol.x (alc zr_int) ?_
  rintro _ _ ⟨g5, rfl, rfl⟩
  refine Ol.s (stv sz_int (i := 0) rfl rfl) ?_
  refine Ol.nil ?_
  refine Cd.seq ?_
  refine Cd.region ?_
  refine Ol.x (alc zr_func_int) ?_
  rintro _ _ ⟨g6, rfl, rfl⟩
  refine Ol.nil ?_
  refine Cd.seq ?_
  refine Cd.region ?_
  refine Ol.p mkf ?_
  refine Ol.s (stv sz_func_int (i := 0) rfl rfl) ?_
  refine Ol.nil ?_
  refine Cd.seq ?_
  refine Cd.region ?_
  refine Ol.p (ldv one_func_int (i := 0) rfl) ?_
  refine Ol.x (sp_callvw (vs := [.int .i64 ((0 : Nat) : Int)]) (L2 := []) en_flow_Order_1 (flow_Order_1_cm (gG := g3) (gF := g1) (gT := g6) (gN := g5) (gO := g4) (gr := gr) hf hfit hcl (f.blocks.length + 1) (0, []) 0 0 (by omega) ⟨zero_sm, by simp⟩ hpos) (by rw [List.append_nil]; unfold LL; rw [enc0]; exact List.perm_append_comm (l₁ := [_, _, _, _]) (l₂ := [_, _])) (hargs := rfl)) ?_
  rintro _ _ ⟨_, rfl, rfl, rfl, hinv, _⟩
  refine Ol.nil ?_
  rw [← hst] at hinv ⊢
  have hl := hinv.len
  have hcg := card_le st.1 f.blocks.length
  unfold LL
  refine Cd.seq ?_
  refine Cd.region ?_
  refine Ol.p (ldv one_L_int (i := 4) rfl) ?_
  refine Ol.p (ldv one_int (i := 3) rfl) ?_
  refine Ol.p (slo (n := f.blocks.length) (c := f.blocks.length) sl_L_int (l := f.blocks.length - st.2.length) (by omega) (by omega)) ?_
  refine Ol.p ass ?_
  refine Ol.nil ?_
  rw [show f.blocks.length - (f.blocks.length - st.2.length) = st.2.length by omega]
  refine Cd.ret ⟨.slice _ _ _, ret1 rfl rfl, _, .sub (.cons _ (.cons _ (.cons _ (.cons _ (.cons _ (.cons_cons _ .slnil)))))), .inr ⟨gr, _, _, _, rfl, rfl, by simp [intsN], ⟨Nat.le_refl _, by rw [outC_size (by omega)]; omega⟩, fun j u hu => ?_⟩⟩
  unfold outC
  rw [Nat.zero_add, Nat.mul_one]
  simp only [List.getElem?_toArray]
  rw [List.getElem?_append_right (by simp)]
  simpa using hu
theorem flow_Order_ct {w : World} {f : RFun} (hf : FunAt w w.heap.size f) (hfit : Fit f) : Ct Tryz.prog 22 #[f.val] w (PartL 3 (orderF f.terms).length (intsN (orderF f.terms))) :=
  (flow_Order_ct2 hf hfit).mono fun _ _ h => h.part
end
end Go.Proofs.YtkefmjhagmacfaaGreatDoor

/- Structs of numbers, compared. -/
namespace Go.Proofs.YtkefmjhagmacfaaGreatDoor
set_option linter.unusedVariables false
open Go Go.RowKit
section
variable {P : Program} {w0 : World} {B : Nat} {σ : Env} {L : List Res} {d : Option Nat} {ty T : TypeId} {pos : String} {af : Array Edge} {gd : Option (Nat × Bool)} {x y z : Operand} {v : Value}
theorem run_eqFields_prim {xs ys : Array Value} {dd : Nat} (w : World) : ∀ fs : List Field, (∀ f ∈ fs, f.name ≠ "_" ∧ ∃ kd a b, primT P f.type kd ∧ xs[f.offset]? = some a ∧ ys[f.offset]? = some b ∧ Tell kd a b) → ∀ r : Bool, (r = true ↔ ∀ f ∈ fs, xs[f.offset]? = ys[f.offset]?) → (Op.eqFields (dd + 1) xs ys fs).run P w = .ok r w
  | [], _, r, hr => by
    have : r = true := hr.2 (by simp)
    simp [Op.eqFields, this]
  | f :: fs, h, r, hr => by
    obtain ⟨hn, kd, a, b, he, ha, hb, q, hs, hq⟩ := h f (by simp)
    have h1 := run_eq_prim (dd := dd) he.1 hs w
    have p1 : (part f.type xs f.offset).run P w = .ok a w := run_part_one he.one ha w
    have p2 : (part f.type ys f.offset).run P w = .ok b w := run_part_one he.one hb w
    simp only [Op.eqFields, hn, ne_eq, not_false_eq_true, if_true, Sem.run_bind, p1, p2, h1, Result.andThen_ok]
    cases q with
    | true =>
      have hab : a = b := hq.1 rfl
      have ih := run_eqFields_prim (dd := dd) w fs (fun j hj => h j (by simp [hj])) r (by
        rw [hr]
        simp [ha, hb, hab])
      simpa using ih
    | false =>
      have hab : a ≠ b := fun e => by have := hq.2 e; cases this
      have : r = false := by
        cases r with
        | false => rfl
        | true =>
          have := hr.1 rfl f (by simp)
          rw [ha, hb] at this
          exact absurd (Option.some.inj this) hab
      simp [this]
/-- A struct of n numbers. -/
def stI (P : Program) (T n : Nat) : Bool := match P.underlying T with
  | some (.struct fs) => fs.toList.all (fun f => (f.name != "_") && ((match P.underlying f.type with | some (.int _) => true | _ => false) && decide ((P.info? f.type).map (·.size) = some 1))) && decide (fs.toList.map (·.offset) = List.range n) && !P.stoodInHeld T && !P.eqGuardType P.depth T
  | _ => false
theorem run_equal_ints {n : Nat} {a b : List Int} (hT : stI P T n = true) (ha : a.length = n) (hb : b.length = n) (w : World) : (Op.equal T (.agg (ints a).toArray) (.agg (ints b).toArray)).run P w = .ok (decide (a = b)) w ∧ P.eqGuardType P.depth T = false := by
  unfold stI at hT
  split at hT
  · rename_i fs hu
    simp only [Bool.and_eq_true, List.all_eq_true, Bool.not_eq_true', decide_eq_true_eq] at hT
    obtain ⟨⟨⟨h1, h2⟩, h3⟩, h4⟩ := hT
    refine ⟨?_, h4⟩
    have hf : P.fieldsOf T = fs := by simp [Program.fieldsOf, hu]
    have := run_equalIn_struct (P := P) w 9999 T (ints a).toArray (ints b).toArray (by rw [hf]; exact hu) h3
    have e : (Op.equal T (.agg (ints a).toArray) (.agg (ints b).toArray)).run P w = (Op.equalIn (9999 + 1) T (.agg (ints a).toArray) (.agg (ints b).toArray)).run P w := rfl
    rw [e, this, hf]
    have hoff : ∀ f ∈ fs.toList, f.offset < n := fun f hf => by
      have : f.offset ∈ fs.toList.map (·.offset) := List.mem_map.2 ⟨f, hf, rfl⟩
      rw [h2] at this
      simpa using this
    have hall : ∀ i, i < n → ∃ f ∈ fs.toList, f.offset = i := fun i hi => by
      have : i ∈ fs.toList.map (·.offset) := by rw [h2]; simpa using hi
      simpa using this
    have hget : ∀ (l : List Int) (i : Nat) (hi : i < l.length), ((ints l).toArray)[i]? = some (.int .i64 l[i]) := fun l i hi => by simp [ints, hi]
    apply run_eqFields_prim (dd := 9998)
    · intro f hf
      obtain ⟨h5, h6, h7⟩ := h1 f hf
      refine ⟨by simpa using h5, ?_⟩
      have ho := hoff f hf
      split at h6
      · rename_i k hk
        exact ⟨.int k, _, _, ⟨hk, rfl, h7⟩, hget a _ (by omega), hget b _ (by omega), Tell.int⟩
      · cases h6
    · rw [decide_eq_true_iff]
      constructor
      · rintro rfl f _; rfl
      · intro h
        apply List.ext_getElem (by omega)
        intro i hi hj
        obtain ⟨f, hf, rfl⟩ := hall i (by omega)
        have := h f hf
        rw [hget a _ hi, hget b _ hj] at this
        simpa using this
  · cases hT
theorem eqs {u : TypeId} {n : Nat} {a b : List Int} (hT : stI P T n = true) (ha : a.length = n) (hb : b.length = n) (hx : ev σ x = .agg (ints a).toArray := by exact rfl) (hy : ev σ y = .agg (ints b).toArray := by exact rfl) :
    Sd P w0 B ⟨d, .binOp .eql T x y u, ty, pos, af, gd⟩ σ L (.bool (decide (a = b))) := sp_val fun w => by
  obtain ⟨h1, h2⟩ := run_equal_ints hT ha hb w
  simp [execOp, hx, hy, binOp, eqGuard_agg h2, h1]
theorem nes {u : TypeId} {n : Nat} {a b : List Int} (hT : stI P T n = true) (ha : a.length = n) (hb : b.length = n) (hx : ev σ x = .agg (ints a).toArray := by exact rfl) (hy : ev σ y = .agg (ints b).toArray := by exact rfl) :
    Sd P w0 B ⟨d, .binOp .neq T x y u, ty, pos, af, gd⟩ σ L (.bool (!decide (a = b))) := sp_val fun w => by
  obtain ⟨h1, h2⟩ := run_equal_ints hT ha hb w
  simp [execOp, hx, hy, binOp, eqGuard_agg h2, h1]
end
theorem st_api_Edge : stI Tryz.prog 58 3 = true := by kernel_rfl
end Go.Proofs.YtkefmjhagmacfaaGreatDoor

/- The law 10: its small functions, walked. -/
namespace Go.Proofs.YtkefmjhagmacfaaGreatDoor
set_option linter.unusedVariables false
open Go Go.RowKit
set_option maxRecDepth 100000


section
theorem ints_eq_of {a b : List Int} (hl : a.length = b.length) (h : ∀ i x y, i < a.length → a[i]? = some x → b[i]? = some y → x = y) : a = b := by
  apply List.ext_getElem hl
  intro i h1 h2
  exact h i _ _ h1 (List.getElem?_eq_getElem h1) (List.getElem?_eq_getElem h2)
theorem kit_SameInts_ct {w : World} {A B : Option Addr} {c d : Nat} {a b : List Int} (ha : Reads w w.heap.size 1 A a.length (ints a)) (hb : Reads w w.heap.size 1 B b.length (ints b)) (hal : a.length < 2 ^ 62) (hbl : b.length < 2 ^ 62) :
    Ct Tryz.prog 24 #[.slice A a.length c, .slice B b.length d] w (Is (.bool (decide (a = b)))) := by
  refine Ct.mk Tryz.func24 rfl rfl ?_
  refine Cd.seq ?_
  refine Cd.region ?_
  refine Ol.p asb ?_
  refine Ol.nil ?_
  refine Cd.seq ?_
  refine Cd.seq ?_
  refine Cd.region ?_
  refine Ol.p mvs ?_
  refine Ol.p (lens sl_L_int) ?_
  refine Ol.p mvs ?_
  refine Ol.p (lens sl_L_int) ?_
  refine Ol.p nei ?_
  refine Ol.nil ?_
  refine Cd.cond rfl (fun h => ?_) (fun h => ?_)
  · refine Cd.seq ?_
    refine Cd.region ?_
    refine Ol.p asb ?_
    refine Ol.nil ?_
    refine Cd.ret ⟨_, ret1 rfl rfl, [], .nil, ?_, rfl⟩
    have hne : a ≠ b := fun e => by subst e; simp at h
    rw [decide_eq_false hne]; rfl
  have hll : a.length = b.length := by
    have : (a.length : Int) = b.length := by simpa using h
    omega
  refine Cd.skip ?_
  refine Cd.seq ?_
  refine Cd.seq ?_
  refine Cd.region ?_
  refine Ol.p asi ?_
  refine Ol.nil ?_
  refine Cd.block ?_
  refine Cd.loop (fun m σ L => ∃ k, m = a.length - k ∧ k ≤ a.length ∧ Has σ [(0, .slice A a.length c), (1, .slice B b.length d), (5, .int .i64 k)] ∧ L = [] ∧ ∀ i x y, i < k → a[i]? = some x → b[i]? = some y → x = y) (n := a.length) ⟨0, rfl, Nat.zero_le _, ⟨rfl, rfl, rfl, trivial⟩, rfl, fun i x y h => by omega⟩ ?_
  rintro _ σ L ⟨k, rfl, hk, hs, rfl, hyes⟩
  refine Cd.has hs ?_
  refine Cd.seq ?_
  refine Cd.seq ?_
  refine Cd.region ?_
  refine Ol.p mvi ?_
  refine Ol.p mvs ?_
  refine Ol.p (lens sl_L_int) ?_
  refine Ol.p lsi ?_
  refine Ol.nil ?_
  refine Cd.cond rfl (fun h => ?_) (fun h => ?_)
  · have hlt : k < a.length := by simpa using h
    have hlt2 : k < b.length := by omega
    refine Cd.skip ?_
    refine Cd.seq ?_
    refine Cd.block ?_
    refine Cd.seq ?_
    refine Cd.draw mixed 9 (fun _ => none) (fun _ => []) (by kernel_rfl) (fun _ _ h => by cases h) (fun u hu => ?_)
    refine Wk.p mvs ?_
    refine Wk.p mvi ?_
    refine Wk.p (ixn1 sl_L_int (Som.slc ha (by omega))) ?_
    refine Wk.p (ld one_int (Rd.slc ha (ints_get hlt))) ?_
    refine Wk.p mvs ?_
    refine Wk.p mvi ?_
    refine Wk.p (ixn1 sl_L_int (Som.slc hb (by omega))) ?_
    refine Wk.p (ld one_int (Rd.slc hb (ints_get hlt2))) ?_
    refine Wk.p nei ?_
    refine Wk.nil ?_
    refine Ol.nil ?_
    refine Cd.cond rfl (fun h2 => ?_) (fun h2 => ?_)
    · refine Cd.seq ?_
      refine Cd.region ?_
      refine Ol.p asb ?_
      refine Ol.nil ?_
      refine Cd.ret ⟨_, ret1 rfl rfl, [], .nil, ?_, rfl⟩
      have hne : a ≠ b := fun e => by subst e; simp at h2
      rw [decide_eq_false hne]; rfl
    · refine Cd.skip ?_
      refine Cd.region ?_
      refine Ol.p mvi ?_
      refine Ol.p addi ?_
      refine Ol.p asi ?_
      refine Ol.nil ?_
      refine ⟨a.length - (k + 1), by omega, k + 1, rfl, by omega, ⟨rfl, rfl, rfl, trivial⟩, rfl, ?_⟩
      intro i x y hi hx hy
      rcases Nat.lt_or_ge i k with h3 | h3
      · exact hyes i x y h3 hx hy
      · have : i = k := by omega
        subst this
        rw [List.getElem?_eq_getElem hlt] at hx
        rw [List.getElem?_eq_getElem hlt2] at hy
        cases hx; cases hy
        simpa using h2
  · have hge : k = a.length := by
      have : ¬ (k : Int) < a.length := by simpa using h
      omega
    subst hge
    refine Cd.exit (id := 0) ?_
    refine Cd.seq ?_
    refine Cd.region ?_
    refine Ol.p asb ?_
    refine Ol.nil ?_
    refine Cd.ret ⟨_, ret1 rfl rfl, [], .nil, ?_, rfl⟩
    rw [decide_eq_true (ints_eq_of hll hyes)]; rfl
end

section
theorem law10_branch_ct {w : World} {x y : Int} : Ct Tryz.prog 30 #[.int .i64 x, .int .i64 y] w (Is (RBlk.val ⟨none, 0, [], ⟨2, 1, x, y⟩⟩)) := by
  refine Ct.mk Tryz.func30 rfl rfl ?_
  refine Cd.seq ?_
  refine Cd.region ?_
  refine Ol.x (alc zr_api_Block) ?_
  rintro _ _ ⟨g4, rfl, rfl⟩
  refine Ol.nil ?_
  refine Cd.seq ?_
  refine Cd.region ?_
  refine Ol.p mvi ?_
  refine Ol.p mvi ?_
  refine Ol.p (bda (cs := #[.int .i64 x, .int .i64 y]) ar_A2_int zr_A2_int (hf := by kernel_rfl)) ?_
  refine Ol.p (bds (cs := #[.int .i64 2, .int .i64 1, .int .i64 x, .int .i64 y]) bs_api_Term zr_api_Term (hf := by kernel_rfl)) ?_
  refine Ol.p (bds (cs := #[.slice none 0 0, .int .i64 2, .int .i64 1, .int .i64 x, .int .i64 y]) bs_api_Block zr_api_Block (hf := by kernel_rfl)) ?_
  refine Ol.s (stw (vs := #[.slice none 0 0, .int .i64 2, .int .i64 1, .int .i64 x, .int .i64 y]) sz_api_Block rfl (by intro u hu; simp at hu; rcases hu with rfl | rfl | rfl | rfl | rfl <;> rfl) (i := 0) rfl rfl) ?_
  refine Ol.nil ?_
  refine Cd.ret ⟨_, retc rfl ag_api_Block rfl (i := 0) rfl rfl, [], .nil, rfl, rfl⟩
theorem law10_jump_ct {w : World} {x : Int} : Ct Tryz.prog 31 #[.int .i64 x] w (Is (RBlk.val ⟨none, 0, [], ⟨1, 0, x, 0⟩⟩)) := by
  refine Ct.mk Tryz.func31 rfl rfl ?_
  refine Cd.seq ?_
  refine Cd.region ?_
  refine Ol.x (alc zr_api_Block) ?_
  rintro _ _ ⟨g2, rfl, rfl⟩
  refine Ol.nil ?_
  refine Cd.seq ?_
  refine Cd.region ?_
  refine Ol.p mvi ?_
  refine Ol.p (bda (cs := #[.int .i64 x, .int .i64 0]) ar_A2_int zr_A2_int (hf := by kernel_rfl)) ?_
  refine Ol.p (bds (cs := #[.int .i64 1, .int .i64 0, .int .i64 x, .int .i64 0]) bs_api_Term zr_api_Term (hf := by kernel_rfl)) ?_
  refine Ol.p (bds (cs := #[.slice none 0 0, .int .i64 1, .int .i64 0, .int .i64 x, .int .i64 0]) bs_api_Block zr_api_Block (hf := by kernel_rfl)) ?_
  refine Ol.s (stw (vs := #[.slice none 0 0, .int .i64 1, .int .i64 0, .int .i64 x, .int .i64 0]) sz_api_Block rfl (by intro u hu; simp at hu; rcases hu with rfl | rfl | rfl | rfl | rfl <;> rfl) (i := 0) rfl rfl) ?_
  refine Ol.nil ?_
  refine Cd.ret ⟨_, retc rfl ag_api_Block rfl (i := 0) rfl rfl, [], .nil, rfl, rfl⟩
theorem law10_trap_ct {w : World} : Ct Tryz.prog 32 #[] w (Is (RBlk.val ⟨none, 0, [], ⟨4, 0, 0, 0⟩⟩)) := by
  refine Ct.mk Tryz.func32 rfl rfl ?_
  refine Cd.seq ?_
  refine Cd.region ?_
  refine Ol.x (alc zr_api_Block) ?_
  rintro _ _ ⟨g0, rfl, rfl⟩
  refine Ol.nil ?_
  refine Cd.seq ?_
  refine Cd.region ?_
  refine Ol.p (bds (cs := #[.int .i64 4, .int .i64 0, .int .i64 0, .int .i64 0]) bs_api_Term zr_api_Term (hf := by kernel_rfl)) ?_
  refine Ol.p (bds (cs := #[.slice none 0 0, .int .i64 4, .int .i64 0, .int .i64 0, .int .i64 0]) bs_api_Block zr_api_Block (hf := by kernel_rfl)) ?_
  refine Ol.s (stw (vs := #[.slice none 0 0, .int .i64 4, .int .i64 0, .int .i64 0, .int .i64 0]) sz_api_Block rfl (by intro u hu; simp at hu; rcases hu with rfl | rfl | rfl | rfl | rfl <;> rfl) (i := 0) rfl rfl) ?_
  refine Ol.nil ?_
  refine Cd.ret ⟨_, retc rfl ag_api_Block rfl (i := 0) rfl rfl, [], .nil, rfl, rfl⟩
end

section
def Faw (g : Nat) : RFun := ⟨none, 0, [], some ⟨g, 0, none⟩, 3, [⟨none, 0, [], ⟨2, 1, 1, 2⟩⟩, ⟨none, 0, [], ⟨1, 0, 2, 0⟩⟩, ⟨none, 0, [], ⟨4, 0, 0, 0⟩⟩]⟩
def Taw : List Tm := [⟨2, 1, 1, 2⟩, ⟨1, 0, 2, 0⟩, ⟨4, 0, 0, 0⟩]
theorem Faw_fit (g : Nat) : Fit (Faw g) := by
  constructor <;> simp [Faw]
theorem Reads.none_ {w : World} {B s : Nat} : Reads w B s none 0 [] := ⟨by simp, fun h => absurd h (by omega)⟩
theorem Faw_at {w : World} {B g : Nat} (h : Reads w B 5 (some ⟨g, 0, none⟩) 3 ((Faw g).blocks.flatMap RBlk.cells)) : FunAt w B (Faw g) := by
  refine ⟨Reads.none_, h, ?_, ?_⟩
  · intro b hb
    simp [Faw] at hb
    rcases hb with rfl | rfl | rfl <;> exact Reads.none_
  · intro b hb i hi
    simp [Faw] at hb
    rcases hb with rfl | rfl | rfl <;> simp at hi
theorem law10_awake_ct {w : World} : Ct Tryz.prog 8 #[] w (Is (.bool true)) := by
  have hC0 : someE Taw (critE Taw) = [⟨0, 1, 2⟩] := by kernel_rfl
  have hO0 : orderF Taw = [0, 1, 2] := by kernel_rfl
  have hE0 : someE Taw (fun _ => true) = [⟨0, 0, 1⟩, ⟨0, 1, 2⟩, ⟨1, 0, 2⟩] := by kernel_rfl
  have hC : ∀ g, someE (Faw g).terms (critE (Faw g).terms) = [⟨0, 1, 2⟩] := fun g => hC0
  have hO : ∀ g, orderF (Faw g).terms = [0, 1, 2] := fun g => hO0
  have hE : ∀ g, someE (Faw g).terms (fun _ => true) = [⟨0, 0, 1⟩, ⟨0, 1, 2⟩, ⟨1, 0, 2⟩] := fun g => hE0
  refine Ct.mk Tryz.func8 rfl rfl ?_
  refine Cd.seq ?_
  refine Cd.region ?_
  refine Ol.p asb ?_
  refine Ol.nil ?_
  refine Cd.seq ?_
  refine Cd.region ?_
  refine Ol.s (cl en_law10_branch (fun M w' hh => law10_branch_ct)) ?_
  refine Ol.s (cl en_law10_jump (fun M w' hh => law10_jump_ct)) ?_
  refine Ol.s (cl en_law10_trap (fun M w' hh => law10_trap_ct)) ?_
  refine Ol.x (bsn [RBlk.val ⟨none, 0, [], ⟨2, 1, 1, 2⟩⟩, RBlk.val ⟨none, 0, [], ⟨1, 0, 2, 0⟩⟩, RBlk.val ⟨none, 0, [], ⟨4, 0, 0, 0⟩⟩] sl_L_api_Block zr_api_Block (by intro v hv; simp at hv; rcases hv with rfl | rfl | rfl <;> rfl) rfl (by decide) (by decide)) ?_
  rintro _ _ ⟨g6, rfl, rfl⟩
  refine Ol.p (bds (cs := #[.slice none 0 0, .slice (some ⟨g6, 0, none⟩) 3 3]) bs_api_Func zr_api_Func (hf := by kernel_rfl)) ?_
  refine Ol.x (alc zr_api_Func) ?_
  rintro _ _ ⟨g1, rfl, rfl⟩
  refine Ol.s (stw (vs := #[.slice none 0 0, .slice (some ⟨g6, 0, none⟩) 3 3]) sz_api_Func rfl (by intro u hu; simp at hu; rcases hu with rfl | rfl <;> rfl) (i := 0) rfl rfl) ?_
  refine Ol.nil ?_
  refine Cd.seq ?_
  refine Cd.region ?_
  refine Ol.p (ldw ag_api_Func (i := 0) rfl rfl) ?_
  refine Ol.x (sp_call en_flow_Critical (fun M' w' hh => (by have h := flow_Critical_ct (f := Faw g6) (w := w') (Faw_at (Reads.row hh (i := 1) rfl)) (Faw_fit g6); rw [hC g6] at h; exact h))) ?_
  rintro _ _ ⟨_, rfl, A9, c9, rfl, rfl⟩
  refine Ol.p ass ?_
  refine Ol.nil ?_
  refine Cd.seq ?_
  refine Cd.region ?_
  refine Ol.p (ldw ag_api_Func (i := 1) rfl rfl) ?_
  refine Ol.x (sp_call en_flow_Order (fun M' w' hh => (by have h := flow_Order_ct (f := Faw g6) (w := w') (Faw_at (Reads.row hh (i := 2) rfl)) (Faw_fit g6); rw [hO g6] at h; exact h))) ?_
  rintro _ _ ⟨_, rfl, ⟨h0, _⟩ | ⟨gO, kO, cO, csO, rfl, rfl, hl, hx⟩⟩; · cases h0
  refine Ol.x (bsv [.int .i64 0, .int .i64 1, .int .i64 2] sl_L_int zr_int (by simp [Value.cells])) ?_
  rintro _ _ ⟨g12, rfl, rfl⟩
  refine Ol.s (cl en_kit_SameInts (fun M w' hh => kit_SameInts_ct (a := [0, 1, 2]) (b := [0, 1, 2]) (Reads.blk hh (i := 1) rfl hl hx) (Reads.row hh (i := 0) rfl) (by decide) (by decide))) ?_
  refine Ol.p mvb ?_
  refine Ol.gp rfl mvs ?_
  refine Ol.gp rfl (lens sl_L_api_Edge) ?_
  refine Ol.gp rfl eqi ?_
  refine Ol.p (pkTb rfl) ?_
  refine Ol.p mvb ?_
  refine Ol.gp rfl mvs ?_
  refine Ol.gp rfl (ixn (ix := 0) sl_L_api_Edge (Som.row (i := 2) rfl (by decide)) (h := by decide)) ?_
  refine Ol.gp rfl (ldr (es := Ed.cells ⟨0, 1, 2⟩) (i := 2) (k := 0) ag_api_Edge rfl rfl (fun j u h => by simpa [edV] using h)) ?_
  refine Ol.gp rfl (bds (cs := (Ed.cells ⟨0, 1, 2⟩).toArray) bs_api_Edge zr_api_Edge (hf := by kernel_rfl)) ?_
  refine Ol.gp rfl (eqs (n := 3) (a := [0, 1, 2]) (b := [0, 1, 2]) st_api_Edge rfl rfl) ?_
  refine Ol.p (pkTb rfl) ?_
  refine Ol.p mvb ?_
  refine Ol.gp rfl (ldw ag_api_Func (i := 3) rfl rfl) ?_
  refine Ol.gx rfl (sp_call en_flow_Edges (fun M' w' hh => (by have h := flow_Edges_ct (f := Faw g6) (w := w') (Faw_at (Reads.row hh (i := 4) rfl)) (Faw_fit g6); rw [hE g6] at h; exact h))) ?_
  rintro _ _ ⟨_, rfl, A28, c28, rfl, rfl⟩
  refine Ol.gp rfl (lens sl_L_api_Edge) ?_
  refine Ol.gp rfl eqi ?_
  refine Ol.p (pkTb rfl) ?_
  refine Ol.p asb ?_
  refine Ol.nil ?_
  refine Cd.ret ⟨.bool _, ret1 rfl rfl, [], .nil, rfl, rfl⟩
end
end Go.Proofs.YtkefmjhagmacfaaGreatDoor

/- Lists of resources told apart by counting. -/
namespace Go.Proofs.YtkefmjhagmacfaaGreatDoor
theorem perm_count {α : Type} {l l' : List α} (h : ∀ (_ : DecidableEq α) (x : α), l.count x = l'.count x) : l.Perm l' := by
  haveI : DecidableEq α := fun a b => Classical.propDecidable (a = b)
  exact List.perm_iff_count.2 fun x => h _ x
theorem keep_count {L L' : List Res} (D : List Res) (h : ∀ (_ : DecidableEq Res) (x : Res), L.count x = (L' ++ D).count x) : Keep L L' := ⟨D, perm_count h⟩
end Go.Proofs.YtkefmjhagmacfaaGreatDoor

/- Reference 10: the order of blocks, walked. -/
namespace Go.Proofs.YtkefmjhagmacfaaGreatDoor
set_option linter.unusedVariables false
set_option linter.unusedSimpArgs false
open Go Go.RowKit
set_option maxRecDepth 100000
theorem Src.rds {w0 : World} {B : Nat} {L : List Res} {A : Option Addr} {m : Nat} {ys : List Value} (h : RdS w0 B L 1 A m ys) (hl : ys.length = m) : Src w0 B L A m 1 ys := ⟨by omega, fun M w hh => (Src.slc (w0 := w) (B := w.heap.size) (L := []) (h M w hh)).2 [] w (Hp.start w)⟩
section
theorem ref10_has_ct {w : World} {A : Option Addr} {c : Nat} {l : List Int} {n : Int} (hl : Reads w w.heap.size 1 A l.length (ints l)) (hb : l.length < 2 ^ 62) : Ct Tryz.prog 66 #[.slice A l.length c, .int .i64 n] w (Is (.bool (l.contains n))) := by
  refine Ct.mk Tryz.func66 rfl rfl ?_
  refine Cd.seq ?_
  refine Cd.region ?_
  refine Ol.p asb ?_
  refine Ol.nil ?_
  refine Cd.seq ?_
  refine Cd.seq ?_
  refine Cd.region ?_
  refine Ol.p asi ?_
  refine Ol.nil ?_
  refine Cd.block ?_   -- 0
  refine Cd.loop (fun m σ L => ∃ k, m = l.length - k ∧ k ≤ l.length ∧ (l.take k).contains n = false ∧ Has σ [(0, .slice A l.length c), (1, .int .i64 n), (5, .int .i64 k)] ∧ [] = L) (n := l.length) ⟨0, rfl, Nat.zero_le _, rfl, ⟨rfl, rfl, rfl, trivial⟩, rfl⟩ ?_
  rintro _ σ L ⟨k, rfl, hk, hno, hs, rfl⟩
  refine Cd.has hs ?_
  clear hs
  refine Cd.seq ?_
  refine Cd.seq ?_
  refine Cd.region ?_
  refine Ol.p mvi ?_
  refine Ol.p mvs ?_
  refine Ol.p (lens sl_L_int) ?_
  refine Ol.p lsi ?_
  refine Ol.nil ?_
  refine Cd.cond rfl (fun h => ?_) (fun h => ?_)   -- $9
  · have hlt := lt_of h
    obtain ⟨x, hx⟩ : ∃ x, l[k]? = some x := ⟨_, List.getElem?_eq_getElem hlt⟩
    refine Cd.skip ?_
    refine Cd.seq ?_
    refine Cd.block ?_   -- 1
    refine Cd.seq ?_
    refine Cd.region ?_
    refine Ol.p mvs ?_
    refine Ol.p mvi ?_
    refine Ol.p (ixn1 (ix := k) sl_L_int (Som.slc hl (by omega))) ?_
    refine Ol.p (ld (v := .int .i64 x) one_int (Rd.slc hl (ints_at hx))) ?_
    refine Ol.p mvi ?_
    refine Ol.p eqi ?_
    refine Ol.nil ?_
    refine Cd.cond rfl (fun h => ?_) (fun h => ?_)   -- $17
    · have h : decide (x = n) = true := h
      have hxn := of_decide_eq_true h
      have hc : l.contains n = true := List.contains_iff_mem.2 (by rw [← hxn]; exact List.mem_of_getElem? hx)
      rw [hc]
      refine Cd.seq ?_
      refine Cd.region ?_
      refine Ol.p asb ?_
      refine Ol.nil ?_
      exact Cd.ret ⟨.bool true, ret1 rfl rfl, [], .nil, rfl, rfl⟩
    have h : decide (x = n) = false := h
    have hxn := of_decide_eq_false h
    refine Cd.skip ?_
    refine Cd.region ?_
    refine Ol.p mvi ?_
    refine Ol.p addi ?_
    refine Ol.p asi ?_
    refine Ol.nil ?_
    refine ⟨l.length - (k + 1), by omega, k + 1, rfl, by omega, ?_, ⟨rfl, rfl, rfl, trivial⟩, rfl⟩
    rw [take_snoc_ hx]
    simp only [List.contains_eq_mem, List.mem_append, List.mem_singleton, decide_eq_false_iff_not] at hno ⊢
    rintro (h | h)
    · exact hno h
    · exact hxn h.symm
  have hke : k = l.length := by
    have := ge_of_ h
    omega
  rw [hke, List.take_length] at hno
  rw [hno]
  refine Cd.exit (id := 0) ?_
  refine Cd.seq ?_
  refine Cd.region ?_
  refine Ol.p asb ?_
  refine Ol.nil ?_
  exact Cd.ret ⟨.bool false, ret1 rfl rfl, [], .nil, rfl, rfl⟩
end
/-! ### The walk in depth, along the list of all edges -/
def stepE (ts : List Tm) (fuel : Nat) (b : Nat) (st : Dst) (e : Ed) : Dst := if e.src = (b : Int) then dfs ts fuel e.to.toNat st else st
theorem fold_zip {ts : List Tm} {fuel b : Nat} : ∀ (l : List Int) (k : Nat) (st : Dst), ((l.zipIdx k).map fun x => (⟨(b : Int), (x.2 : Int), x.1⟩ : Ed)).foldl (stepE ts fuel b) st = l.foldl (fun st t => dfs ts fuel t.toNat st) st
  | [], k, st => rfl
  | a :: l, k, st => by
    simp only [List.zipIdx_cons, List.map_cons, List.foldl_cons]
    rw [fold_zip l (k + 1)]
    congr 1
    exact if_pos rfl
theorem fold_other {ts : List Tm} {fuel b : Nat} : ∀ (l : List Ed) (st : Dst), (∀ e ∈ l, e.src ≠ (b : Int)) → l.foldl (stepE ts fuel b) st = st
  | [], st, _ => rfl
  | e :: l, st, h => by
    rw [List.foldl_cons, show stepE ts fuel b st e = st from if_neg (h e (List.mem_cons_self ..))]
    exact fold_other l st fun e he => h e (List.mem_cons_of_mem _ he)
theorem fold_edges {ts : List Tm} {fuel b : Nat} (st : Dst) : ∀ k, k ≤ ts.length → (edgesTo ts k).foldl (stepE ts fuel b) st = if b < k then (toAt ts b).foldl (fun st t => dfs ts fuel t.toNat st) st else st
  | 0, _ => by rw [edgesTo_zero, if_neg (Nat.not_lt_zero b)]; rfl
  | k + 1, hk => by
    obtain ⟨t, ht⟩ : ∃ t, ts[k]? = some t := ⟨_, List.getElem?_eq_getElem (by omega)⟩
    rw [edgesTo_succ ht, List.foldl_append, fold_edges st k (by omega)]
    by_cases hb : b = k
    · subst hb
      rw [if_neg (by omega), if_pos (by omega), toAt_some ht]
      exact fold_zip _ _ _
    · rw [fold_other _ _ (fun e he => by
        unfold edgesB at he
        obtain ⟨x, _, rfl⟩ := List.mem_map.1 he
        show ((k : Nat) : Int) ≠ (b : Int)
        omega)]
      by_cases h : b < k
      · rw [if_pos h, if_pos (by omega)]
      · rw [if_neg h, if_neg (by omega)]
theorem fold_all {ts : List Tm} {fuel b : Nat} (st : Dst) (hb : b < ts.length) : (edges ts).foldl (stepE ts fuel b) st = (toAt ts b).foldl (fun st t => dfs ts fuel t.toNat st) st := by
  unfold edges
  rw [fold_edges st ts.length (Nat.le_refl _), if_pos hb]
theorem dfs_done {ts : List Tm} {b : Nat} {st : Dst} (h : st.1.testBit b = true) : ∀ fuel, dfs ts fuel b st = st
  | 0 => rfl
  | n + 1 => by simp only [dfs, h, cond_true]
def BitsL (n s : Nat) (g : List Int) : Prop := (∀ i : Nat, i < n → g.contains (i : Int) = s.testBit i) ∧ g.length ≤ card s n
theorem BitsL.add {n s b : Nat} {g : List Int} (h : BitsL n s g) (hb : b < n) (hn : n ≤ 1024) (ht : s.testBit b = false) : BitsL n (withL s [(b : Int)]) (g ++ [(b : Int)]) := by
  refine ⟨fun i hi => ?_, ?_⟩
  · rw [testBit_with1 s b i (by omega), ← h.1 i hi]
    by_cases hib : i = b
    · simp [hib]
    · have : ¬ ((i : Int) = (b : Int)) := by omega
      simp [hib, this]
  · have := card_with1 hb hn ht
    have := h.2
    simp
    omega
section
def ThR (ts : List Tm) (n fuel d b : Nat) (st : Dst) (g : List Int) (A1 A2 : Option Addr) (c1 c2 : Nat) : Value → List Res → Prop := fun v L =>
  (st.1.testBit b = true ∧ v = .tuple #[.slice A1 g.length c1, .slice A2 st.2.length c2] ∧ L = []) ∨
  (st.1.testBit b = false ∧ Inv n d (dfs ts fuel b st) ∧ Sub st.1 (dfs ts fuel b st).1 ∧ ∃ (g' : List Int) (A : Option Addr) (c : Nat) (A' : Option Addr) (c' : Nat), BitsL n (dfs ts fuel b st).1 g' ∧ v = .tuple #[.slice A g'.length c, .slice A' (dfs ts fuel b st).2.length c'] ∧ L = [row (.slice A g'.length c) 3 1 g'.length (ints g'), row (.slice A' (dfs ts fuel b st).2.length c') 3 1 (dfs ts fuel b st).2.length (intsN (dfs ts fuel b st).2)])
set_option maxHeartbeats 4000000 in
theorem ref10_through_ct {f : RFun} (hcl : closed f.terms = true) : ∀ (fuel : Nat) (st : Dst) (d b : Nat) (g : List Int) {w : World} {AE A1 A2 : Option Addr} {cE c1 c2 : Nat}, f.blocks.length - card st.1 f.blocks.length < fuel → Inv f.blocks.length d st → BitsL f.blocks.length st.1 g → b < f.blocks.length →
    Reads w w.heap.size 3 AE (edges f.terms).length (edV (edges f.terms)) → Reads w w.heap.size 1 A1 g.length (ints g) → Reads w w.heap.size 1 A2 st.2.length (intsN st.2) →
    Ct Tryz.prog 65 #[.slice AE (edges f.terms).length cE, .int .i64 (b : Int), .slice A1 g.length c1, .slice A2 st.2.length c2] w (ThR f.terms f.blocks.length fuel d b st g A1 A2 c1 c2) := by
  have htl : f.terms.length = f.blocks.length := by simp [RFun.terms]
  obtain ⟨hpos, hmax, hedge⟩ := closed_len hcl
  rw [htl] at hpos hmax hedge
  have hel := edges_len_le f
  intro fuel
  induction fuel with
  | zero => intro st d b g w AE A1 A2 cE c1 c2 h; omega
  | succ fuel ih =>
    intro st d b g w AE A1 A2 cE c1 c2 hfuel hinv hbits hb hEr hg hp
    have hcard := card_le st.1 f.blocks.length
    have hgl := hbits.2
    have hpl := hinv.len
    have hgb := hbits.1 b hb
    refine Ct.mk Tryz.func65 rfl rfl ?_
    refine Cd.seq ?_
    refine Cd.region ?_
    refine Ol.p ass ?_
    refine Ol.p ass ?_
    refine Ol.nil ?_
    refine Cd.seq ?_
    refine Cd.seq ?_
    refine Cd.region ?_
    refine Ol.p mvs ?_
    refine Ol.p mvi ?_
    refine Ol.s (cl (v := .bool (g.contains (b : Int))) en_ref10_has (fun M w' hh => ref10_has_ct (hg.now hh) (by omega))) ?_
    refine Ol.nil ?_
    rw [hgb]
    refine Cd.cond rfl (fun h => ?_) (fun h => ?_)   -- $13
    · have h : st.1.testBit b = true := h
      refine Cd.seq ?_
      refine Cd.region ?_
      refine Ol.p mvs ?_
      refine Ol.p mvs ?_
      refine Ol.p ass ?_
      refine Ol.p ass ?_
      refine Ol.nil ?_
      exact Cd.ret ⟨.tuple #[.slice A1 g.length c1, .slice A2 st.2.length c2], ret2 rfl rfl rfl, [], .nil, .inl ⟨h, rfl, rfl⟩⟩
    have h : st.1.testBit b = false := h
    obtain ⟨s1, hs1⟩ : ∃ s1, s1 = withL st.1 [(b : Int)] := ⟨_, rfl⟩
    obtain ⟨g1, hg1⟩ : ∃ g1, g1 = g ++ [(b : Int)] := ⟨_, rfl⟩
    have hb1 : BitsL f.blocks.length s1 g1 := by rw [hs1, hg1]; exact hbits.add hb (by omega) h
    have hsm1 : Sm s1 := by rw [hs1]; exact withL_sm hinv.sm
    have hgrow : card st.1 f.blocks.length < card s1 f.blocks.length := by rw [hs1]; exact card_with1 hb (by omega) h
    have hcard1 := card_le s1 f.blocks.length
    obtain ⟨E, hE⟩ : ∃ E, E = edges f.terms := ⟨_, rfl⟩
    obtain ⟨go, hgo⟩ : ∃ go : Nat → Dst, go = fun k => (E.take k).foldl (stepE f.terms fuel b) (s1, st.2) := ⟨_, rfl⟩
    have e0 : dfs f.terms (fuel + 1) b st = ((go E.length).1, b :: (go E.length).2) := by
      have h1 : go E.length = (toAt f.terms b).foldl (fun st t => dfs f.terms fuel t.toNat st) (s1, st.2) := by
        rw [hgo]
        show (E.take E.length).foldl _ _ = _
        rw [List.take_length, hE]
        exact fold_all _ (by omega)
      rw [h1]
      simp only [dfs, h, cond_false, hs1]
    rw [← hE] at hEr hel ⊢
    refine Cd.skip ?_
    refine Cd.seq ?_
    refine Cd.region ?_
    refine Ol.x (bsv [] sl_L_int zr_int (by simp)) ?_
    rintro _ _ ⟨g16, rfl, rfl⟩
    refine Ol.p mvs ?_
    refine Ol.x (ap0 sl_L_int zr_int rfl (by decide) (Src.slc hg) (ints_one _) (by unfold maxLen; omega) (by omega)) ?_
    rintro _ _ ⟨_, rfl, A18, c18, rfl, rfl⟩
    refine Ol.p mvi ?_
    refine Ol.x (bsv [.int .i64 (b : Int)] sl_L_int zr_int (by simp [Value.cells])) ?_
    rintro _ _ ⟨g20, rfl, rfl⟩
    refine Ol.x (apn (i := 1) (n := g.length) (m := 1) sl_L_int zr_int rfl (by decide) rfl (Src.row (i := 0) rfl rfl) (by intro u hu; simp at hu; subst hu; rfl) (by unfold maxLen; omega) (by omega)) ?_
    rintro _ _ ⟨A21, c21, rfl, rfl⟩
    refine Ol.p ass ?_
    refine Ol.keep (.sub (.cons _ (List.Sublist.refl _))) ?_
    refine Ol.nil ?_
    have hg1l : g.length + 1 = g1.length := by rw [hg1]; simp
    have hg1i : ints g ++ [Value.int .i64 (b : Int)] = ints g1 := by rw [hg1]; simp [ints]
    show Cd _ _ _ _ [row (.slice A21 (g.length + 1) c21) 3 1 (g.length + 1) (ints g ++ [Value.int .i64 (b : Int)])]
    rw [hg1l, hg1i]
    refine Cd.seq ?_
    refine Cd.seq ?_
    refine Cd.region ?_
    refine Ol.p asi ?_
    refine Ol.nil ?_
    refine Cd.block ?_   -- 0
    refine Cd.loop (fun m σ L => ∃ (k : Nat) (gk : List Int) (Ag Ap : Option Addr) (cg cp : Nat) (Lp : List Res), m = E.length - k ∧ k ≤ E.length ∧ BitsL f.blocks.length (go k).1 gk ∧ Inv f.blocks.length (d + 1) (go k) ∧ Sub s1 (go k).1 ∧ RdS w w.heap.size Lp 1 Ap (go k).2.length (intsN (go k).2) ∧ Has σ [(0, .slice AE E.length cE), (1, .int .i64 (b : Int)), (2, .slice Ag gk.length cg), (3, .slice Ap (go k).2.length cp), (10, .int .i64 k)] ∧ row (.slice Ag gk.length cg) 3 1 gk.length (ints gk) :: Lp = L) (n := E.length) ⟨0, g1, A21, A2, c21, c2, [], rfl, Nat.zero_le _, by rw [hgo]; exact hb1, by rw [hgo]; exact ⟨hsm1, by show st.2.length + (d + 1) ≤ card s1 f.blocks.length; omega⟩, by rw [hgo]; exact Sub.refl _, by rw [hgo]; exact RdS.slc hp, ⟨rfl, rfl, rfl, by rw [hgo]; rfl, rfl, trivial⟩, rfl⟩ ?_
    rintro _ σ L ⟨k, gk, Ag, Ap, cg, cp, Lp, rfl, hk, hbk, hik, hsk, hpk, hs, rfl⟩
    refine Cd.has hs ?_
    clear hs
    refine Cd.seq ?_
    refine Cd.seq ?_
    refine Cd.region ?_
    refine Ol.p mvi ?_
    refine Ol.p mvs ?_
    refine Ol.p (lens sl_L_api_Edge) ?_
    refine Ol.p lsi ?_
    refine Ol.nil ?_
    refine Cd.cond rfl (fun hc => ?_) (fun hc => ?_)   -- $25
    · have hlt := lt_of hc
      obtain ⟨e, he⟩ : ∃ e, E[k]? = some e := ⟨_, List.getElem?_eq_getElem hlt⟩
      have hto : (edV E)[k * 3 + 2]? = some (.int .i64 e.to) := edV_at he rfl
      have hsr : (edV E)[k * 3 + 0]? = some (.int .i64 e.src) := edV_at he rfl
      have hte := hedge e (by rw [← hE]; exact List.mem_of_getElem? he)
      obtain ⟨q, hq⟩ : ∃ q : Nat, e.to = (q : Int) := ⟨e.to.toNat, by omega⟩
      have hqb : q < f.blocks.length := by omega
      have hgo1 : go (k + 1) = stepE f.terms fuel b (go k) e := by
        rw [hgo]
        exact foldl_snoc he
      refine Cd.skip ?_
      refine Cd.mid (fun σ' L' => ∃ (gk : List Int) (Ag Ap : Option Addr) (cg cp : Nat) (Lp : List Res), BitsL f.blocks.length (go (k + 1)).1 gk ∧ Inv f.blocks.length (d + 1) (go (k + 1)) ∧ Sub s1 (go (k + 1)).1 ∧ RdS w w.heap.size Lp 1 Ap (go (k + 1)).2.length (intsN (go (k + 1)).2) ∧ Has σ' [(0, .slice AE E.length cE), (1, .int .i64 (b : Int)), (2, .slice Ag gk.length cg), (3, .slice Ap (go (k + 1)).2.length cp), (10, .int .i64 k)] ∧ row (.slice Ag gk.length cg) 3 1 gk.length (ints gk) :: Lp = L') ?_ ?_
      · skip
        refine Cd.block ?_   -- 1
        refine Cd.seq ?_
        refine Cd.region ?_
        refine Ol.p mvs ?_
        refine Ol.p mvi ?_
        refine Ol.p (ixn (ix := k) sl_L_api_Edge (Som.slc hEr (by omega))) ?_
        refine Ol.p (fdp fd_api_Edge_0) ?_
        refine Ol.p (ld (v := .int .i64 e.src) one_int (Rd.slc hEr hsr)) ?_
        refine Ol.p mvi ?_
        refine Ol.p eqi ?_
        refine Ol.nil ?_
        refine Cd.cond rfl (fun h => ?_) (fun h => ?_)   -- $34
        · have h : decide (e.src = (b : Int)) = true := h
          have hes := of_decide_eq_true h
          have hst : go (k + 1) = dfs f.terms fuel q (go k) := by
            rw [hgo1]
            show (if e.src = (b : Int) then _ else _) = _
            rw [if_pos hes, hq]
            rfl
          have hfuel1 : f.blocks.length - card (go k).1 f.blocks.length < fuel := by have := card_mono (n := f.blocks.length) hsk; omega
          have hE2 : (edges f.terms).length = E.length := by rw [hE]
          refine Cd.region ?_
          refine Ol.p mvs ?_
          refine Ol.p mvs ?_
          refine Ol.p mvi ?_
          refine Ol.p (ixn (ix := k) sl_L_api_Edge (Som.slc hEr (by omega))) ?_
          refine Ol.p (fdp fd_api_Edge_2) ?_
          refine Ol.p (ld (v := .int .i64 e.to) one_int (Rd.slc hEr hto)) ?_
          refine Ol.p mvs ?_
          refine Ol.p mvs ?_
          refine Ol.x (sp_call (vs := [.slice AE E.length cE, .int .i64 e.to, .slice Ag gk.length cg, .slice Ap (go k).2.length cp]) (R := ThR f.terms f.blocks.length fuel (d + 1) q (go k) gk Ag Ap cg cp) en_ref10_through (fun M w' hh => by rw [hq, hE]; exact ih (go k) (d + 1) q gk hfuel1 hik hbk hqb (by rw [← hE]; exact hEr.now hh) (Reads.row hh (i := 0) rfl) ((hpk.more) M w' hh))) ?_
          rintro _ _ ⟨T, rfl, hR⟩
          rcases hR with ⟨hdn, rfl, rfl⟩ | ⟨_, hi2, hs2, g', Ag2, cg2, Ap2, cp2, hb2, rfl, rfl⟩
          · have hsame : go (k + 1) = go k := by rw [hst]; exact dfs_done hdn _
            rw [hsame]
            refine Ol.p mvt ?_
            refine Ol.p extv ?_
            refine Ol.p extv ?_
            refine Ol.p ass ?_
            refine Ol.p ass ?_
            refine Ol.nil ?_
            exact ⟨gk, Ag, Ap, cg, cp, Lp, hbk, hik, hsk, hpk, ⟨rfl, rfl, rfl, rfl, rfl, trivial⟩, rfl⟩
          · rw [← hst] at hi2 hs2 hb2 ⊢
            refine Ol.keep (L' := [row (.slice Ag2 g'.length cg2) 3 1 g'.length (ints g'), row (.slice Ap2 (go (k + 1)).2.length cp2) 3 1 (go (k + 1)).2.length (intsN (go (k + 1)).2)]) Keep.fst ?_
            refine Ol.p mvt ?_
            refine Ol.p extv ?_
            refine Ol.p extv ?_
            refine Ol.p ass ?_
            refine Ol.p ass ?_
            refine Ol.nil ?_
            exact ⟨g', Ag2, Ap2, cg2, cp2, [row (.slice Ap2 (go (k + 1)).2.length cp2) 3 1 (go (k + 1)).2.length (intsN (go (k + 1)).2)], hb2, hi2, hsk.trans hs2, RdS.row (i := 0) rfl, ⟨rfl, rfl, rfl, rfl, rfl, trivial⟩, rfl⟩
        have h : decide (e.src = (b : Int)) = false := h
        have hes := of_decide_eq_false h
        have hsame : go (k + 1) = go k := by
          rw [hgo1]
          exact if_neg hes
        rw [hsame]
        refine Cd.skip ?_
        exact ⟨gk, Ag, Ap, cg, cp, Lp, hbk, hik, hsk, hpk, ⟨rfl, rfl, rfl, rfl, rfl, trivial⟩, rfl⟩
      rintro σ' _ ⟨gk', Ag', Ap', cg', cp', Lp', h1, h2, h3, h4, hs', rfl⟩
      refine Cd.has hs' ?_
      refine Cd.region ?_
      refine Ol.p mvi ?_
      refine Ol.p addi ?_
      refine Ol.p asi ?_
      refine Ol.nil ?_
      exact ⟨E.length - (k + 1), by omega, k + 1, gk', Ag', Ap', cg', cp', Lp', rfl, by omega, h1, h2, h3, h4, ⟨rfl, rfl, rfl, rfl, rfl, trivial⟩, rfl⟩
    have hke : k = E.length := by
      have := ge_of_ hc
      omega
    subst hke
    have hl2 := hik.len
    have hcg := card_le (go E.length).1 f.blocks.length
    have hgk := hbk.2
    refine Cd.exit (id := 0) ?_
    refine Cd.seq ?_
    refine Cd.region ?_
    refine Ol.p mvs ?_
    refine Ol.p mvi ?_
    refine Ol.x (bsv [.int .i64 (b : Int)] sl_L_int zr_int (by simp [Value.cells])) ?_
    rintro _ _ ⟨g49, rfl, rfl⟩
    refine Ol.p mvs ?_
    refine Ol.x (apn (i := 0) (n := 1) (m := (go E.length).2.length) sl_L_int zr_int rfl (by decide) rfl (Src.rds (hpk.more.more) (by simp [intsN])) (fun u hu => by simp only [intsN, List.mem_map] at hu; obtain ⟨_, _, rfl⟩ := hu; rfl) (by unfold maxLen; omega) (by omega)) ?_
    rintro _ _ ⟨A51, c51, rfl, rfl⟩
    refine Ol.p ass ?_
    refine Ol.p ass ?_
    refine Ol.nil ?_
    have hl3 : 1 + (go E.length).2.length = (dfs f.terms (fuel + 1) b st).2.length := by rw [e0]; simp; omega
    have hl4 : [Value.int .i64 (b : Int)] ++ intsN (go E.length).2 = intsN (dfs f.terms (fuel + 1) b st).2 := by rw [e0]; simp [intsN]
    refine Cd.ret ⟨.tuple #[.slice Ag gk.length cg, .slice A51 (1 + (go E.length).2.length) c51], ret2 rfl rfl rfl, [row (.slice Ag gk.length cg) 3 1 gk.length (ints gk), row (.slice A51 (1 + (go E.length).2.length) c51) 3 1 (1 + (go E.length).2.length) ([Value.int .i64 (b : Int)] ++ intsN (go E.length).2)], keep_count Lp fun _ x => by simp only [List.set_cons_succ, List.set_cons_zero, List.count_append, List.count_cons, List.count_nil, List.cons_append, List.nil_append]; omega, .inr ⟨h, ?_, ?_, gk, Ag, cg, A51, c51, ?_, ?_, ?_⟩⟩
    · rw [e0]
      exact ⟨hik.sm, by show ((go E.length).2.length + 1) + d ≤ card (go E.length).1 f.blocks.length; omega⟩
    · rw [e0]
      rw [hs1] at hsk
      exact (sub_with1 _ _).trans hsk
    · rw [e0]
      exact hbk
    · rw [hl3]
    · rw [hl3, hl4]
end
section
theorem ref10_Order_ct {w : World} {f : RFun} (hf : FunAt w w.heap.size f) (hfit : Fit f) : Ct Tryz.prog 25 #[f.val] w (fun v L => ∃ A c, v = .slice A (orderF f.terms).length c ∧ L = [row (.slice A (orderF f.terms).length c) 3 1 (orderF f.terms).length (intsN (orderF f.terms))]) := by
  have htl : f.terms.length = f.blocks.length := by simp [RFun.terms]
  refine Ct.mk Tryz.func25 rfl rfl ?_
  refine Cd.seq ?_
  refine Cd.region ?_
  refine Ol.x bxg ?_
  rintro _ _ ⟨g1, rfl, rfl⟩
  refine Ol.p ass ?_
  refine Ol.nil ?_
  refine Cd.seq ?_
  refine Cd.seq ?_
  refine Cd.region ?_
  refine Ol.p (ldw (cs := f.cells.toArray) ag_api_Func (i := 0) rfl rfl) ?_
  refine Ol.s (cl (v := .bool (closed f.terms)) en_ref10_Closed (fun M w' hh => ref10_Closed_ct (hf.now hh) hfit)) ?_
  refine Ol.p noti ?_
  refine Ol.nil ?_
  refine Cd.cond rfl (fun h => ?_) (fun h => ?_)   -- $7
  · have hcl : closed f.terms = false := by simpa using h
    have e : orderF f.terms = [] := by unfold orderF; rw [hcl]; rfl
    rw [e]
    refine Cd.nr 3 1 ?_
    refine Cd.seq ?_
    refine Cd.region ?_
    refine Ol.p ass ?_
    refine Ol.nil ?_
    exact Cd.ret ⟨.slice none 0 0, ret1 rfl rfl, _, .sub (.cons_cons _ (List.nil_sublist _)), none, 0, rfl, rfl⟩
  have hcl : closed f.terms = true := by simpa using h
  obtain ⟨hpos, hmax, _⟩ := closed_len hcl
  rw [htl] at hpos hmax
  have e : orderF f.terms = (dfs f.terms (f.blocks.length + 1) 0 (0, [])).2 := by unfold orderF; rw [hcl, htl]; rfl
  rw [e]
  refine Cd.skip ?_
  refine Cd.seq ?_
  refine Cd.region ?_
  refine Ol.p (ldw (cs := f.cells.toArray) ag_api_Func (i := 0) rfl rfl) ?_
  refine Ol.x (sp_call (vs := [f.val]) en_ref10_all (fun M w' hh => ref10_all_ct (hf.now hh) hfit (by omega))) ?_
  rintro _ _ ⟨_, rfl, A10, c10, rfl, rfl⟩
  refine Ol.x (sp_call (vs := [.slice A10 (edges f.terms).length c10, .int .i64 0, .slice none 0 0, .slice none 0 0]) (R := ThR f.terms f.blocks.length (f.blocks.length + 1) 0 0 (0, []) [] none none 0 0) en_ref10_through (fun M w' hh => ref10_through_ct (f := f) hcl (f.blocks.length + 1) (0, []) 0 0 [] (by omega) ⟨zero_sm, Nat.zero_le _⟩ ⟨fun i hi => by rw [Nat.zero_testBit]; rfl, Nat.zero_le _⟩ hpos (Reads.row hh (i := 0) rfl) Reads.none_ Reads.none_)) ?_
  rintro _ _ ⟨T, rfl, hR⟩
  rcases hR with ⟨h0, _⟩ | ⟨_, _, _, g', Ag, cg, Ap, cp, _, rfl, rfl⟩
  · rw [Nat.zero_testBit] at h0
    cases h0
  refine Ol.p mvt ?_
  refine Ol.p extv ?_
  refine Ol.p extv ?_
  refine Ol.p ass ?_
  refine Ol.p ass ?_
  refine Ol.nil ?_
  refine Cd.seq ?_
  refine Cd.region ?_
  refine Ol.p mvs ?_
  refine Ol.p ass ?_
  refine Ol.nil ?_
  exact Cd.ret ⟨.slice Ap _ cp, ret1 rfl rfl, _, .sub (.cons _ (.cons_cons _ (List.nil_sublist _))), Ap, cp, rfl, rfl⟩
end
end Go.Proofs.YtkefmjhagmacfaaGreatDoor

