/- RunEnds: for every input that can be read, the law RunEnds returns true and its arguments read as before. Conditions: the row. -/
/- Part 6 of the proof of RunEndsC: the texts RunEnds, RunEndsC, one behind the other. -/
import Derived.Test.YtjenaenakopicaaGreatRunEndsCM5
/- The law 08: RunEnds, walked. -/
namespace Go.Proofs.YtjenaenakopicaaGreat
set_option linter.unusedVariables false
set_option linter.unusedSimpArgs false
open Go Go.RowKit
set_option maxRecDepth 100000
theorem tmodn (n k : Nat) : ((n : Int)).tmod (k : Int) = ((n % k : Nat) : Int) := rfl
theorem quon {n k : Nat} (h : n < 2 ^ 60) : IntKind.i64.wrap (((n : Int)).tdiv (k : Int)) = ((n / k : Nat) : Int) := by
  have e : ((n : Int)).tdiv (k : Int) = ((n / k : Nat) : Int) := rfl
  have h2 : n / k ≤ n := Nat.div_le_self n k
  rw [e]
  obtain ⟨q, hq⟩ : ∃ q, q = n / k := ⟨_, rfl⟩
  rw [← hq] at h2 ⊢
  exact IntWalk.i64_in _ ⟨by omega, by omega⟩
section
/-- A call of the law, the lengths told by the way. -/
theorem does_ct {w : World} {f : RFun} {aA mA nA : Option Addr} {ka km kn aC mC nC : Nat} {args mem ans : List Int} {fuel : Int} (hf : FunAt w w.heap.size f) (hfit : Fit f) (h1 : args.length = ka) (h2 : mem.length = km) (h3 : ans.length = kn) (ha : Reads w w.heap.size 1 aA ka (ints args)) (hm : Reads w w.heap.size 1 mA km (ints mem)) (hn : Reads w w.heap.size 1 nA kn (ints ans)) (hl : ka < 2 ^ 60 ∧ km < 2 ^ 60 ∧ kn < 2 ^ 60) :
    Ct Tryz.prog 4 #[f.val, .slice aA ka aC, .slice mA km mC, .slice nA kn nC, .int .i64 fuel] w (Is (.bool true)) := by
  subst h1 h2 h3
  exact law08_RunDoes_ct hf hfit ha hl.1 hm hl.2.1 hn hl.2.2
/-- An instruction whose numbers are numbers, with a short list. -/
structure OkI (i : RIns) : Prop where
  r : ∀ n ∈ [i.op, i.dst, i.a, i.b, i.imm, i.callee, i.many], -9223372036854775808 ≤ n ∧ n ≤ 9223372036854775807
  len : i.args.length ≤ 3
  cap : i.args.length ≤ i.aC
  args : ∀ n ∈ i.args, -9223372036854775808 ≤ n ∧ n ≤ 9223372036854775807
def okTm (t : Tm) : Prop := ∀ n ∈ [t.kind, t.a, t.t0, t.t1], -9223372036854775808 ≤ n ∧ n ≤ 9223372036854775807
/-- One block of one instruction. -/
def RE (gp gi gb : Nat) (i : RIns) (t : Tm) : RFun := ⟨some ⟨gp, 0, none⟩, 2, [1, 2], some ⟨gb, 0, none⟩, 1, [⟨some ⟨gi, 0, none⟩, 1, [i], t⟩]⟩
def EL (g6 gp gi gb : Nat) (i : RIns) (t : Tm) : List Res := [blk g6 (.cells #[.slice (some ⟨gp, 0, none⟩) 2 2, .slice (some ⟨gb, 0, none⟩) 1 1] 37), row (.slice (some ⟨gb, 0, none⟩) 1 1) 34 5 1 (RBlk.cells ⟨some ⟨gi, 0, none⟩, 1, [i], t⟩), row (.slice (some ⟨gi, 0, none⟩) 1 1) 25 8 1 i.cells, row (.slice (some ⟨gp, 0, none⟩) 2 2) 3 1 2 (ints [1, 2])]
theorem RE_fit {gp gi gb : Nat} {i : RIns} {t : Tm} (hi : OkI i) (ht : okTm t) : Fit (RE gp gi gb i t) := by
  have hl := hi.len
  constructor
  · intro n hn
    simp [RE] at hn
    omega
  · simp [RE]
  · simp [RE]
  · simp [RE]
  · simp [RE]
  · intro b hb
    simp [RE] at hb
    subst hb
    simp
  · intro b hb
    simp [RE] at hb
    subst hb
    simp
  · intro b hb
    simp [RE] at hb
    subst hb
    exact ht
  · intro b hb j hj
    simp [RE] at hb
    subst hb
    simp at hj
    subst hj
    exact hi.r
  · intro b hb j hj
    simp [RE] at hb
    subst hb
    simp at hj
    subst hj
    omega
  · intro b hb j hj
    simp [RE] at hb
    subst hb
    simp at hj
    subst hj
    exact hi.cap
  · intro b hb j hj
    simp [RE] at hb
    subst hb
    simp at hj
    subst hj
    exact hi.args
theorem RE_at {w : World} {B gp gi gb : Nat} {i : RIns} {t : Tm} (hp : Reads w B 1 (some ⟨gp, 0, none⟩) 2 (ints [1, 2])) (hb : Reads w B 5 (some ⟨gb, 0, none⟩) 1 (RBlk.cells ⟨some ⟨gi, 0, none⟩, 1, [i], t⟩)) (hi : Reads w B 8 (some ⟨gi, 0, none⟩) 1 i.cells) (ha : Reads w B 1 i.aA i.args.length (ints i.args)) : FunAt w B (RE gp gi gb i t) := by
  refine ⟨hp, ?_, fun b hbm => ?_, fun b hbm j hj => ?_⟩
  · have e : (RE gp gi gb i t).blocks.flatMap RBlk.cells = RBlk.cells ⟨some ⟨gi, 0, none⟩, 1, [i], t⟩ := by simp [RE]
    rw [e]
    exact hb
  · simp [RE] at hbm
    subst hbm
    have e : [i].flatMap RIns.cells = i.cells := by simp
    show Reads w B 8 (some ⟨gi, 0, none⟩) 1 ([i].flatMap RIns.cells)
    rw [e]
    exact hi
  · simp [RE] at hbm
    subst hbm
    simp at hj
    subst hj
    exact ha
def I8 (o d a b m : Int) : RIns := ⟨o, d, a, b, m, 0, none, 0, [], 0⟩
theorem I8_ok {o d a b m : Int} (h : ∀ n ∈ [o, d, a, b, m], -9223372036854775808 ≤ n ∧ n ≤ 9223372036854775807) : OkI (I8 o d a b m) := by
  refine ⟨fun n hn => ?_, by simp [I8], by simp [I8], fun n hn => absurd hn (by simp [I8])⟩
  simp only [I8, List.mem_cons, List.not_mem_nil, or_false] at hn h
  rcases hn with rfl | rfl | rfl | rfl | rfl | rfl | rfl
  · exact h _ (.inl rfl)
  · exact h _ (.inr (.inl rfl))
  · exact h _ (.inr (.inr (.inl rfl)))
  · exact h _ (.inr (.inr (.inr (.inl rfl))))
  · exact h _ (.inr (.inr (.inr (.inr rfl))))
  · omega
  · omega
def endsL : List Int := [0, 1, -1, 2, 63, 64, 7, -7, 9223372036854775807, -9223372036854775808, 4294967296]
theorem ends_len : endsL.length = 11 := rfl
def clipE (b : Int) : Int := if 9 < (if b < -9 then -9 else b) then 9 else (if b < -9 then -9 else b)
theorem clipE_r (b : Int) : -9 ≤ clipE b ∧ clipE b ≤ 9 := by
  unfold clipE
  split <;> split <;> omega
def rEnd (ge : Nat) : Res := row (.slice (some ⟨ge, 0, none⟩) 11 11) 3 1 11 (ints endsL)
theorem ints_pre {w : World} {B n k : Nat} {A : Option Addr} {l : List Int} (h : Reads w B 1 A n (ints l)) (hk : k ≤ n) : Reads w B 1 A k (ints (l.take k)) := by
  have := h.pre hk
  rwa [show (ints l).take (k * 1) = ints (l.take k) by rw [Nat.mul_one]; simp [ints, List.map_take]] at this
def K1 : RIns := ⟨1, 2, 0, 0, -1, 0, none, 0, [], 0⟩
def K2 : RIns := ⟨2, 1, 1, 2, 0, 0, none, 0, [], 0⟩
def RLp (gp g1 g2 gb : Nat) : RFun := ⟨some ⟨gp, 0, none⟩, 1, [1], some ⟨gb, 0, none⟩, 3, [⟨some ⟨g1, 0, none⟩, 1, [K1], ⟨1, 0, 1, 0⟩⟩, ⟨some ⟨g2, 0, none⟩, 1, [K2], ⟨2, 1, 1, 2⟩⟩, ⟨none, 0, [], ⟨4, 0, 0, 0⟩⟩]⟩
theorem RLp_fit {gp g1 g2 gb : Nat} : Fit (RLp gp g1 g2 gb) := by constructor <;> simp [RLp, K1, K2]
theorem RLp_at {w : World} {B gp g1 g2 gb : Nat} (hp : Reads w B 1 (some ⟨gp, 0, none⟩) 1 (ints [1])) (hb : Reads w B 5 (some ⟨gb, 0, none⟩) 3 ((RLp gp g1 g2 gb).blocks.flatMap RBlk.cells)) (h1 : Reads w B 8 (some ⟨g1, 0, none⟩) 1 K1.cells) (h2 : Reads w B 8 (some ⟨g2, 0, none⟩) 1 K2.cells) : FunAt w B (RLp gp g1 g2 gb) := by
  refine ⟨hp, hb, fun b hbm => ?_, fun b hbm j hj => ?_⟩
  · simp [RLp] at hbm
    rcases hbm with rfl | rfl | rfl
    · have e : [K1].flatMap RIns.cells = K1.cells := by simp
      show Reads w B 8 (some ⟨g1, 0, none⟩) 1 ([K1].flatMap RIns.cells)
      rw [e]
      exact h1
    · have e : [K2].flatMap RIns.cells = K2.cells := by simp
      show Reads w B 8 (some ⟨g2, 0, none⟩) 1 ([K2].flatMap RIns.cells)
      rw [e]
      exact h2
    · exact reads_no
  · simp [RLp] at hbm
    rcases hbm with rfl | rfl | rfl
    · simp at hj
      subst hj
      exact reads_no
    · simp at hj
      subst hj
      exact reads_no
    · simp at hj
def LL (g7 gp g1 g2 gb : Nat) : List Res := [blk g7 (.cells #[.slice (some ⟨gp, 0, none⟩) 1 1, .slice (some ⟨gb, 0, none⟩) 3 3] 37), row (.slice (some ⟨gb, 0, none⟩) 3 3) 34 5 3 ((RLp gp g1 g2 gb).blocks.flatMap RBlk.cells), row (.slice (some ⟨g2, 0, none⟩) 1 1) 25 8 1 K2.cells, row (.slice (some ⟨g1, 0, none⟩) 1 1) 25 8 1 K1.cells, row (.slice (some ⟨gp, 0, none⟩) 1 1) 3 1 1 (ints [1])]
theorem none_at {w : World} {B : Nat} : FunAt w B ⟨none, 0, [], none, 0, []⟩ := ⟨reads_no, reads_no, fun b hb => by simp at hb, fun b hb => by simp at hb⟩
theorem none_fit : Fit ⟨none, 0, [], none, 0, []⟩ := by constructor <;> simp
set_option maxHeartbeats 4000000 in
theorem law08_RunEnds_ct {w : World} : Ct Tryz.prog 5 #[] w (Is (.bool true)) := by
  refine Ct.mk Tryz.func5 rfl rfl ?_
  refine Cd.seq ?_
  refine Cd.region ?_
  refine Ol.p asb ?_
  refine Ol.nil ?_
  refine Cd.seq ?_
  refine Cd.region ?_
  refine Ol.x (bsv (ints endsL) sl_L_int zr_int (by simp [ints, endsL, Value.cells])) ?_
  rintro _ _ ⟨ge, rfl, rfl⟩
  refine Ol.p ass ?_
  refine Ol.nil ?_
  refine Cd.keep (L' := [rEnd ge]) .all ?_
  refine Cd.seq ?_
  refine Cd.seq ?_
  refine Cd.region ?_
  refine Ol.p asi ?_
  refine Ol.nil ?_
  refine Cd.block ?_   -- 0
  refine Cd.loop (fun m σ L => ∃ o : Nat, m = 19 - o ∧ o ≤ 19 ∧ Has σ [(1, .slice (some ⟨ge, 0, none⟩) 11 11), (2, .int .i64 o)] ∧ [rEnd ge] = L) (n := 19) ⟨0, rfl, Nat.zero_le _, ⟨rfl, rfl, trivial⟩, rfl⟩ ?_
  rintro _ σ L ⟨o, rfl, ho, hs, rfl⟩
  refine Cd.has hs ?_
  clear hs
  refine Cd.seq ?_
  refine Cd.seq ?_
  refine Cd.region ?_
  refine Ol.p mvi ?_
  refine Ol.p lsi ?_
  refine Ol.nil ?_
  refine Cd.cond rfl (fun h => ?_) (fun h => ?_)   -- $11
  · have hol : o < 19 := by
      have h : decide ((o : Int) < 19) = true := h
      have := of_decide_eq_true h
      omega
    refine Cd.skip ?_
    refine Cd.seq ?_
    refine Cd.block ?_   -- 1
    refine Cd.seq ?_
    refine Cd.region ?_
    refine Ol.p asi ?_
    refine Ol.nil ?_
    refine Cd.block ?_   -- 2
    refine Cd.loop (fun m σ L => ∃ n : Nat, m = 121 - n ∧ n ≤ 121 ∧ Has σ [(1, .slice (some ⟨ge, 0, none⟩) 11 11), (2, .int .i64 o), (3, .int .i64 n)] ∧ [rEnd ge] = L) (n := 121) ⟨0, rfl, Nat.zero_le _, ⟨rfl, rfl, rfl, trivial⟩, rfl⟩ ?_
    rintro _ σ L ⟨n, rfl, hn, hs, rfl⟩
    refine Cd.has hs ?_
    clear hs
    refine Cd.seq ?_
    refine Cd.seq ?_
    refine Cd.region ?_
    refine Ol.p mvi ?_
    refine Ol.p lsi ?_
    refine Ol.nil ?_
    refine Cd.cond rfl (fun h => ?_) (fun h => ?_)   -- $15
    · have hnl : n < 121 := by
        have h : decide ((n : Int) < 121) = true := h
        have := of_decide_eq_true h
        omega
      obtain ⟨a, hak⟩ : ∃ a, endsL[n % 11]? = some a := ⟨_, List.getElem?_eq_getElem (by rw [ends_len]; omega)⟩
      obtain ⟨b, hbk⟩ : ∃ b, endsL[n / 11]? = some b := ⟨_, List.getElem?_eq_getElem (by rw [ends_len]; omega)⟩
      have t2 : (n : Int).tmod 2 = ((n % 2 : Nat) : Int) := rfl
      have t3 : (n : Int).tmod 3 = ((n % 3 : Nat) : Int) := rfl
      have t5 : (n : Int).tmod 5 = ((n % 5 : Nat) : Int) := rfl
      refine Cd.skip ?_
      refine Cd.seq ?_
      refine Cd.block ?_   -- 3
      refine Cd.seq ?_
      refine Cd.draw mixed 12 (fun _ => none) (fun _ => []) (by kernel_rfl) (fun _ _ h => by cases h) (fun u hu => ?_)
      refine Wk.p mvs ?_
      refine Wk.p mvi ?_
      refine Wk.p remi ?_
      refine Wk.p (ixn1 (ix := n % 11) sl_L_int (Som.row (i := 0) rfl (by omega)) (hy := congrArg (Value.int .i64) (tmodn n 11))) ?_
      refine Wk.p (ld (v := .int .i64 a) one_int (Rd.row (i := 0) rfl (ints_at hak))) ?_
      refine Wk.p mvs ?_
      refine Wk.p mvi ?_
      refine Wk.p quoi ?_
      refine Wk.p (ixn1 (ix := n / 11) sl_L_int (Som.row (i := 0) rfl (by omega)) (hy := congrArg (Value.int .i64) (quon (n := n) (k := 11) (by omega)))) ?_
      refine Wk.p (ld (v := .int .i64 b) one_int (Rd.row (i := 0) rfl (ints_at hbk))) ?_
      refine Wk.p asi ?_
      refine Wk.p asi ?_
      refine Wk.nil ?_
      refine Ol.nil ?_
      refine Cd.seq ?_
      refine Cd.seq ?_
      refine Cd.region ?_
      refine Ol.p mvi ?_
      refine Ol.p mvi ?_
      refine Ol.p mvi ?_
      refine Ol.s (cl (v := .bool true) en_law08_RunCalcs (fun M w' hh => law08_RunCalcs_ct)) ?_
      refine Ol.p noti ?_
      refine Ol.nil ?_
      refine Cd.cond rfl (fun h => nomatch h) (fun h => ?_)   -- $32
      refine Cd.skip ?_
      refine Cd.seq ?_
      refine Cd.region ?_
      refine Ol.x (bsv (ints [1, 2]) sl_L_int zr_int (by simp [ints, Value.cells])) ?_
      rintro _ _ ⟨gp, rfl, rfl⟩
      refine Ol.p mvi ?_
      refine Ol.p (bds (cs := (I8 o 3 1 2 0).cells.toArray) bs_api_Ins zr_api_Ins (hf := by kernel_rfl)) ?_
      refine Ol.x (bsn [(I8 o 3 1 2 0).val] sl_L_api_Ins zr_api_Ins (by intro v hv; simp at hv; subst hv; rfl) rfl (by decide) (by decide)) ?_
      rintro _ _ ⟨gi, rfl, rfl⟩
      refine Ol.p (bds (cs := #[.int .i64 3, .int .i64 3, .int .i64 0, .int .i64 0]) bs_api_Term zr_api_Term (hf := by kernel_rfl)) ?_
      refine Ol.p (bds (cs := #[.slice (some ⟨gi, 0, none⟩) 1 1, .int .i64 3, .int .i64 3, .int .i64 0, .int .i64 0]) bs_api_Block zr_api_Block (hf := by kernel_rfl)) ?_
      refine Ol.x (bsn [RBlk.val ⟨some ⟨gi, 0, none⟩, 1, [I8 o 3 1 2 0], ⟨3, 3, 0, 0⟩⟩] sl_L_api_Block zr_api_Block (by intro v hv; simp at hv; subst hv; rfl) rfl (by decide) (by decide)) ?_
      rintro _ _ ⟨gb, rfl, rfl⟩
      refine Ol.p (bds (cs := #[.slice (some ⟨gp, 0, none⟩) 2 2, .slice (some ⟨gb, 0, none⟩) 1 1]) bs_api_Func zr_api_Func (hf := by kernel_rfl)) ?_
      refine Ol.x (alc zr_api_Func) ?_
      rintro _ _ ⟨g6, rfl, rfl⟩
      refine Ol.s (stw (vs := #[.slice (some ⟨gp, 0, none⟩) 2 2, .slice (some ⟨gb, 0, none⟩) 1 1]) sz_api_Func rfl (by intro u hu; simp at hu; rcases hu with rfl | rfl <;> rfl) (i := 0) rfl rfl) ?_
      refine Ol.nil ?_
      refine Cd.keep (L' := EL g6 gp gi gb (I8 o 3 1 2 0) ⟨3, 3, 0, 0⟩ ++ [rEnd ge]) .all ?_
      refine Cd.mid (fun σ' L' => ∃ (i : RIns) (t : Tm) (X : List Res), OkI i ∧ okTm t ∧ (∀ w0 B, RdS w0 B X 1 i.aA i.args.length (ints i.args)) ∧ Has σ' [(1, .slice (some ⟨ge, 0, none⟩) 11 11), (2, .int .i64 o), (3, .int .i64 n), (4, .int .i64 a), (5, .int .i64 b), (6, .pointer (some ⟨g6, 0, none⟩))] ∧ Keep L' (EL g6 gp gi gb i t ++ (rEnd ge :: X))) ?_ ?_
      · skip
        have okT3 : okTm ⟨3, 3, 0, 0⟩ := by intro x hx; simp at hx; omega
        refine Cd.seq ?_
        refine Cd.region ?_
        refine Ol.p mvi ?_
        refine Ol.nil ?_
        refine Cd.block ?_   -- 4
        refine Cd.seq ?_
        refine Cd.region ?_
        refine Ol.p eqi ?_
        refine Ol.p asb ?_
        refine Ol.nil ?_
        refine Cd.cond rfl (fun h => ?_) (fun h => ?_)   -- $42
        · skip
          refine Cd.region ?_
          refine Ol.p (fdl fd_api_Func_1) ?_
          refine Ol.p (ld one_L_api_Block (Rd.blk (i := 0) rfl rfl)) ?_
          refine Ol.p (ixn (ix := 0) sl_L_api_Block (Som.row (i := 1) rfl (by omega))) ?_
          refine Ol.p (fdp fd_api_Block_0) ?_
          refine Ol.p (ld (v := .slice (some ⟨gi, 0, none⟩) 1 1) one_L_api_Ins (Rd.row (i := 1) rfl rfl)) ?_
          refine Ol.p mvi ?_
          refine Ol.p (bds (cs := (I8 1 3 0 0 n).cells.toArray) bs_api_Ins zr_api_Ins (hf := by kernel_rfl)) ?_
          refine Ol.p (ixn (ix := 0) sl_L_api_Ins (Som.row (i := 2) rfl (by omega))) ?_
          refine Ol.s (stra (i := 2) (k := 0 * 8) (m := 8) (vs := (I8 1 3 0 0 n).cells.toArray) sz_api_Ins rfl (by decide) (I8 1 3 0 0 n).one rfl (by show 0 * 8 + 8 ≤ 8; omega)) ?_
          refine Ol.nil ?_
          exact ⟨I8 1 3 0 0 n, ⟨3, 3, 0, 0⟩, [], I8_ok (by intro x hx; simp at hx; omega), okT3, fun _ _ => RdS.nil, ⟨rfl, rfl, rfl, rfl, rfl, rfl, trivial⟩, .all⟩
        refine Cd.seq ?_
        refine Cd.region ?_
        refine Ol.p eqi ?_
        refine Ol.p asb ?_
        refine Ol.nil ?_
        refine Cd.cond rfl (fun h => ?_) (fun h => ?_)   -- $52
        · skip
          refine Cd.region ?_
          refine Ol.p (fdl fd_api_Func_1) ?_
          refine Ol.p (ld one_L_api_Block (Rd.blk (i := 0) rfl rfl)) ?_
          refine Ol.p (ixn (ix := 0) sl_L_api_Block (Som.row (i := 1) rfl (by omega))) ?_
          refine Ol.p (fdp fd_api_Block_0) ?_
          refine Ol.p (ld (v := .slice (some ⟨gi, 0, none⟩) 1 1) one_L_api_Ins (Rd.row (i := 1) rfl rfl)) ?_
          refine Ol.p mvi ?_
          refine Ol.p maxi ?_
          refine Ol.p mini ?_
          refine Ol.p (bds (cs := (I8 11 3 1 0 (clipE b)).cells.toArray) bs_api_Ins zr_api_Ins (hf := by kernel_rfl)) ?_
          refine Ol.p (ixn (ix := 0) sl_L_api_Ins (Som.row (i := 2) rfl (by omega))) ?_
          refine Ol.s (stra (i := 2) (k := 0 * 8) (m := 8) (vs := (I8 11 3 1 0 (clipE b)).cells.toArray) sz_api_Ins rfl (by decide) (I8 11 3 1 0 (clipE b)).one rfl (by show 0 * 8 + 8 ≤ 8; omega)) ?_
          refine Ol.nil ?_
          have hcl := clipE_r b
          exact ⟨I8 11 3 1 0 (clipE b), ⟨3, 3, 0, 0⟩, [], I8_ok (by intro x hx; simp at hx; omega), okT3, fun _ _ => RdS.nil, ⟨rfl, rfl, rfl, rfl, rfl, rfl, trivial⟩, .all⟩
        refine Cd.seq ?_
        refine Cd.region ?_
        refine Ol.p eqi ?_
        refine Ol.p asb ?_
        refine Ol.nil ?_
        refine Cd.cond rfl (fun h => ?_) (fun h => ?_)   -- $64
        · skip
          refine Cd.seq ?_
          refine Cd.region ?_
          refine Ol.p (fdl fd_api_Func_1) ?_
          refine Ol.p (ld one_L_api_Block (Rd.blk (i := 0) rfl rfl)) ?_
          refine Ol.p (ixn (ix := 0) sl_L_api_Block (Som.row (i := 1) rfl (by omega))) ?_
          refine Ol.p (fdp fd_api_Block_0) ?_
          refine Ol.p (ld (v := .slice (some ⟨gi, 0, none⟩) 1 1) one_L_api_Ins (Rd.row (i := 1) rfl rfl)) ?_
          refine Ol.p mvi ?_
          refine Ol.p remi ?_
          refine Ol.p (subi (hr := by omega)) ?_
          refine Ol.p (bds (cs := (I8 12 0 1 2 ((n : Int).tmod 5 - 2)).cells.toArray) bs_api_Ins zr_api_Ins (hf := by kernel_rfl)) ?_
          refine Ol.p (ixn (ix := 0) sl_L_api_Ins (Som.row (i := 2) rfl (by omega))) ?_
          refine Ol.s (stra (i := 2) (k := 0 * 8) (m := 8) (vs := (I8 12 0 1 2 ((n : Int).tmod 5 - 2)).cells.toArray) sz_api_Ins rfl (by decide) (I8 12 0 1 2 ((n : Int).tmod 5 - 2)).one rfl (by show 0 * 8 + 8 ≤ 8; omega)) ?_
          refine Ol.nil ?_
          refine Cd.region ?_
          refine Ol.p (fdl fd_api_Func_1) ?_
          refine Ol.p (ld one_L_api_Block (Rd.blk (i := 0) rfl rfl)) ?_
          refine Ol.p mvi ?_
          refine Ol.p remi ?_
          refine Ol.p (ixn (ix := 0) sl_L_api_Block (Som.row (i := 1) rfl (by omega))) ?_
          refine Ol.p (fdp fd_api_Block_1) ?_
          refine Ol.p (fdp fd_api_Term_1) ?_
          refine Ol.s (str (i := 1) (k := 0 * 5 + 1 + 1) (v := .int .i64 ((n : Int).tmod 3)) sz_int rfl rfl rfl (by show (2 : Nat) < 5; omega) rfl) ?_
          refine Ol.nil ?_
          exact ⟨I8 12 0 1 2 ((n : Int).tmod 5 - 2), ⟨3, (n : Int).tmod 3, 0, 0⟩, [], I8_ok (by intro x hx; simp at hx; omega), by intro x hx; simp at hx; omega, fun _ _ => RdS.nil, ⟨rfl, rfl, rfl, rfl, rfl, rfl, trivial⟩, .all⟩
        refine Cd.seq ?_
        refine Cd.region ?_
        refine Ol.p eqi ?_
        refine Ol.p asb ?_
        refine Ol.nil ?_
        refine Cd.cond rfl (fun h => ?_) (fun h => ?_)   -- $83
        · skip
          refine Cd.region ?_
          refine Ol.p (fdl fd_api_Func_1) ?_
          refine Ol.p (ld one_L_api_Block (Rd.blk (i := 0) rfl rfl)) ?_
          refine Ol.p (ixn (ix := 0) sl_L_api_Block (Som.row (i := 1) rfl (by omega))) ?_
          refine Ol.p (fdp fd_api_Block_0) ?_
          refine Ol.p (ld (v := .slice (some ⟨gi, 0, none⟩) 1 1) one_L_api_Ins (Rd.row (i := 1) rfl rfl)) ?_
          refine Ol.p (bds (cs := (I8 14 3 2 0 0).cells.toArray) bs_api_Ins zr_api_Ins (hf := by kernel_rfl)) ?_
          refine Ol.p (ixn (ix := 0) sl_L_api_Ins (Som.row (i := 2) rfl (by omega))) ?_
          refine Ol.s (stra (i := 2) (k := 0 * 8) (m := 8) (vs := (I8 14 3 2 0 0).cells.toArray) sz_api_Ins rfl (by decide) (I8 14 3 2 0 0).one rfl (by show 0 * 8 + 8 ≤ 8; omega)) ?_
          refine Ol.nil ?_
          exact ⟨I8 14 3 2 0 0, ⟨3, 3, 0, 0⟩, [], I8_ok (by intro x hx; simp at hx; omega), okT3, fun _ _ => RdS.nil, ⟨rfl, rfl, rfl, rfl, rfl, rfl, trivial⟩, .all⟩
        refine Cd.seq ?_
        refine Cd.region ?_
        refine Ol.p eqi ?_
        refine Ol.p asb ?_
        refine Ol.nil ?_
        refine Cd.cond rfl (fun h => ?_) (fun h => ?_)   -- $92
        · skip
          refine Cd.seq ?_
          refine Cd.region ?_
          refine Ol.p (fdl fd_api_Func_1) ?_
          refine Ol.p (ld one_L_api_Block (Rd.blk (i := 0) rfl rfl)) ?_
          refine Ol.p (ixn (ix := 0) sl_L_api_Block (Som.row (i := 1) rfl (by omega))) ?_
          refine Ol.p (fdp fd_api_Block_0) ?_
          refine Ol.p (ld (v := .slice (some ⟨gi, 0, none⟩) 1 1) one_L_api_Ins (Rd.row (i := 1) rfl rfl)) ?_
          refine Ol.p mvi ?_
          refine Ol.p remi ?_
          refine Ol.p (muli (hr := by omega)) ?_
          refine Ol.x (bsv (ints [1, 2, 1]) sl_L_int zr_int (by simp [ints, Value.cells])) ?_
          rintro _ _ ⟨ga, rfl, rfl⟩
          refine Ol.p (bds (cs := (RIns.cells ⟨13, 3 * (n : Int).tmod 2, 0, 0, 0, 0, some ⟨ga, 0, none⟩, 3, [1, 2, 1], 0⟩).toArray) bs_api_Ins zr_api_Ins (hf := by kernel_rfl)) ?_
          refine Ol.p (ixn (ix := 0) sl_L_api_Ins (Som.row (i := 3) rfl (by omega))) ?_
          refine Ol.s (stra (i := 3) (k := 0 * 8) (m := 8) (vs := (RIns.cells ⟨13, 3 * (n : Int).tmod 2, 0, 0, 0, 0, some ⟨ga, 0, none⟩, 3, [1, 2, 1], 0⟩).toArray) sz_api_Ins rfl (by decide) (RIns.one _) rfl (by show 0 * 8 + 8 ≤ 8; omega)) ?_
          refine Ol.nil ?_
          refine Cd.region ?_
          refine Ol.p (fdl fd_api_Func_1) ?_
          refine Ol.p (ld one_L_api_Block (Rd.blk (i := 1) rfl rfl)) ?_
          refine Ol.p mvi ?_
          refine Ol.p remi ?_
          refine Ol.p (muli (hr := by omega)) ?_
          refine Ol.p (addi (hr := by omega)) ?_
          refine Ol.p (ixn (ix := 0) sl_L_api_Block (Som.row (i := 2) rfl (by omega))) ?_
          refine Ol.p (fdp fd_api_Block_1) ?_
          refine Ol.p (fdp fd_api_Term_1) ?_
          refine Ol.s (str (i := 2) (k := 0 * 5 + 1 + 1) (v := .int .i64 (1 + (n : Int).tmod 2 * 2)) sz_int rfl rfl rfl (by show (2 : Nat) < 5; omega) rfl) ?_
          refine Ol.nil ?_
          refine ⟨⟨13, 3 * (n : Int).tmod 2, 0, 0, 0, 0, some ⟨ga, 0, none⟩, 3, [1, 2, 1], 0⟩, ⟨3, 1 + (n : Int).tmod 2 * 2, 0, 0⟩, [row (.slice (some ⟨ga, 0, none⟩) 3 3) 3 1 3 (ints [1, 2, 1])], ⟨by intro x hx; simp at hx; omega, by simp, by simp, by intro x hx; simp at hx; omega⟩, by intro x hx; simp at hx; omega, fun _ _ => RdS.row (i := 0) rfl, ⟨rfl, rfl, rfl, rfl, rfl, rfl, trivial⟩, ?_⟩
          exact Keep.comm (A := [_])
        refine Cd.skip ?_
        exact ⟨I8 o 3 1 2 0, ⟨3, 3, 0, 0⟩, [], I8_ok (by intro x hx; simp at hx; omega), okT3, fun _ _ => RdS.nil, ⟨rfl, rfl, rfl, rfl, rfl, rfl, trivial⟩, .all⟩
      rintro σ' L' ⟨i, t, X, hi, ht, hX, hs', hkp⟩
      refine Cd.keep hkp ?_
      refine Cd.has hs' ?_
      clear hs' hkp
      have hmade : (madeCells (Value.int .i64 0).cells ((n % 66) * 1)).toList.take ((n % 66) * 1) = ints (List.replicate (n % 66) 0) := (made_ints _).trans (by simp [ints])
      refine Cd.mid (fun σ' L' => Has σ' [(1, .slice (some ⟨ge, 0, none⟩) 11 11), (2, .int .i64 o), (3, .int .i64 n), (148, .bool false)] ∧ Keep L' [rEnd ge]) ?_ ?_
      · cases h19 : decide ((n : Int).tmod 9 = 0) with
        | false =>
          refine Cd.draw mixed 35 (fun opNo => match opNo with | 3 => some (NewSv 3 1 2 2 (ints [a, b])) | 6 => some (NewSv 3 1 (n % 66) (n % 66) ((madeCells (Value.int .i64 0).cells ((n % 66) * 1)).toList.take ((n % 66) * 1))) | 13 => some (Is (.bool true)) | _ => none) (fun opNo => match opNo with | 13 => [3, 6] | _ => []) (by kernel_rfl) (by intro q V h; split at h <;> cases h; exact ⟨_, _, 0, rfl, rfl⟩; exact ⟨_, _, 0, rfl, rfl⟩; exact ⟨_, [], rfl, rfl⟩) (fun u hu => ?_)
          refine Wk.p (ldw (cs := #[.slice (some ⟨gp, 0, none⟩) 2 2, .slice (some ⟨gb, 0, none⟩) 1 1]) ag_api_Func (i := 0) rfl rfl) ?_
          refine Wk.p mvi ?_
          refine Wk.p mvi ?_
          refine Wk.x (V := NewSv 3 1 2 2 (ints [a, b])) hu (NewS.adds (bsv (ints [a, b]) sl_L_int zr_int (by simp [ints, Value.cells]))) ?_
          rintro _ _ hu3 ⟨g117, rfl, rfl⟩
          refine Wk.p mvi ?_
          refine Wk.p remi ?_
          refine Wk.x (V := NewSv 3 1 (n % 66) (n % 66) ((madeCells (Value.int .i64 0).cells ((n % 66) * 1)).toList.take ((n % 66) * 1))) hu (NewS.adds (mks (n := n % 66) (c := n % 66) sl_L_int zr_int)) ?_
          rintro _ _ hu6 ⟨g120, rfl, rfl⟩
          refine Wk.p mvs ?_
          refine Wk.p mvi ?_
          refine Wk.p remi ?_
          refine Wk.p (slh (A := some ⟨ge, 0, none⟩) (n := 11) (c := 11) (h := n % 3) sl_L_int (by omega) (hy := congrArg (Value.int .i64) (tmodn n 3))) ?_
          refine Wk.p mvi ?_
          refine Wk.p remi ?_
          refine Wk.xn (V := Is (.bool true)) hu (l := [3, 6]) rfl (by simp) (by rw [needs_cons hu3, needs_cons hu6, needs_none]; exact (sp_call (vs := [(RE gp gi gb i t).val, .slice (some ⟨g117, 0, none⟩) 2 2, .slice (some ⟨g120, 0, none⟩) (n % 66) (n % 66), .slice (some ⟨ge, 0, none⟩) (n % 3) 11, .int .i64 ((n : Int).tmod 4)]) en_law08_RunDoes (fun M w' hh => does_ct (f := RE gp gi gb i t) (args := [a, b]) (mem := List.replicate (n % 66) 0) (ans := endsL.take (n % 3)) (RE_at (Reads.row hh (i := 5) rfl) (Reads.row hh (i := 3) rfl) (Reads.row hh (i := 4) rfl) ((hX w w.heap.size).keep (.sub (.cons _ (.cons _ (.cons _ (.cons _ (.cons _ (.cons _ (.cons _ (List.Sublist.refl _))))))))) M w' hh)) (RE_fit hi ht) rfl (by simp) (by rw [List.length_take, ends_len]; omega) (Reads.row hh (i := 0) rfl) (by have q := Reads.row hh (i := 1) rfl; rw [hmade] at q; exact q) (ints_pre (Reads.row hh (i := 6) rfl) (by omega)) (by omega)))) ?_
          rintro _ _ hu13 ⟨rfl, rfl⟩
          refine Wk.p noti ?_
          refine Wk.p mvb ?_
          refine Wk.gp rfl mvi ?_
          refine Wk.gp rfl remi ?_
          refine Wk.gp rfl eqi ?_
          refine Wk.gp rfl mvb ?_
          refine Wk.gn h19 ?_
          refine Wk.gn h19 ?_
          refine Wk.gn h19 ?_
          refine Wk.gn h19 ?_
          refine Wk.gn h19 ?_
          refine Wk.gn h19 ?_
          refine Wk.gn h19 ?_
          refine Wk.gn h19 ?_
          refine Wk.gn h19 ?_
          refine Wk.gn h19 ?_
          refine Wk.gn h19 ?_
          refine Wk.gn h19 ?_
          refine Wk.gn h19 ?_
          refine Wk.gp rfl (pkFb h19) ?_
          refine Wk.p (pkFb rfl) ?_
          refine Wk.nil ?_
          rw [needs_cons hu13, needs_cons hu6, needs_cons hu3, needs_none]
          refine Ol.nil ?_
          exact ⟨⟨rfl, rfl, rfl, rfl, trivial⟩, .sub (.cons _ (.cons _ (.cons _ (.cons _ (.cons _ (.cons _ (.cons_cons _ (List.nil_sublist _))))))))⟩
        | true =>
          refine Cd.draw mixed 35 (fun opNo => match opNo with | 3 => some (NewSv 3 1 2 2 (ints [a, b])) | 6 => some (NewSv 3 1 (n % 66) (n % 66) ((madeCells (Value.int .i64 0).cells ((n % 66) * 1)).toList.take ((n % 66) * 1))) | 13 => some (Is (.bool true)) | 23 => some (NewSv 3 1 2 2 (ints [a, b])) | 27 => some (NewSv 3 1 1 1 (ints [5])) | 31 => some (Is (.bool true)) | _ => none) (fun opNo => match opNo with | 13 => [3, 6] | 31 => [23, 27] | _ => []) (by kernel_rfl) (by intro q V h; split at h <;> cases h; exact ⟨_, _, 0, rfl, rfl⟩; exact ⟨_, _, 0, rfl, rfl⟩; exact ⟨_, [], rfl, rfl⟩; exact ⟨_, _, 0, rfl, rfl⟩; exact ⟨_, _, 0, rfl, rfl⟩; exact ⟨_, [], rfl, rfl⟩) (fun u hu => ?_)
          refine Wk.p (ldw (cs := #[.slice (some ⟨gp, 0, none⟩) 2 2, .slice (some ⟨gb, 0, none⟩) 1 1]) ag_api_Func (i := 0) rfl rfl) ?_
          refine Wk.p mvi ?_
          refine Wk.p mvi ?_
          refine Wk.x (V := NewSv 3 1 2 2 (ints [a, b])) hu (NewS.adds (bsv (ints [a, b]) sl_L_int zr_int (by simp [ints, Value.cells]))) ?_
          rintro _ _ hu3 ⟨g117, rfl, rfl⟩
          refine Wk.p mvi ?_
          refine Wk.p remi ?_
          refine Wk.x (V := NewSv 3 1 (n % 66) (n % 66) ((madeCells (Value.int .i64 0).cells ((n % 66) * 1)).toList.take ((n % 66) * 1))) hu (NewS.adds (mks (n := n % 66) (c := n % 66) sl_L_int zr_int)) ?_
          rintro _ _ hu6 ⟨g120, rfl, rfl⟩
          refine Wk.p mvs ?_
          refine Wk.p mvi ?_
          refine Wk.p remi ?_
          refine Wk.p (slh (A := some ⟨ge, 0, none⟩) (n := 11) (c := 11) (h := n % 3) sl_L_int (by omega) (hy := congrArg (Value.int .i64) (tmodn n 3))) ?_
          refine Wk.p mvi ?_
          refine Wk.p remi ?_
          refine Wk.xn (V := Is (.bool true)) hu (l := [3, 6]) rfl (by simp) (by rw [needs_cons hu3, needs_cons hu6, needs_none]; exact (sp_call (vs := [(RE gp gi gb i t).val, .slice (some ⟨g117, 0, none⟩) 2 2, .slice (some ⟨g120, 0, none⟩) (n % 66) (n % 66), .slice (some ⟨ge, 0, none⟩) (n % 3) 11, .int .i64 ((n : Int).tmod 4)]) en_law08_RunDoes (fun M w' hh => does_ct (f := RE gp gi gb i t) (args := [a, b]) (mem := List.replicate (n % 66) 0) (ans := endsL.take (n % 3)) (RE_at (Reads.row hh (i := 5) rfl) (Reads.row hh (i := 3) rfl) (Reads.row hh (i := 4) rfl) ((hX w w.heap.size).keep (.sub (.cons _ (.cons _ (.cons _ (.cons _ (.cons _ (.cons _ (.cons _ (List.Sublist.refl _))))))))) M w' hh)) (RE_fit hi ht) rfl (by simp) (by rw [List.length_take, ends_len]; omega) (Reads.row hh (i := 0) rfl) (by have q := Reads.row hh (i := 1) rfl; rw [hmade] at q; exact q) (ints_pre (Reads.row hh (i := 6) rfl) (by omega)) (by omega)))) ?_
          rintro _ _ hu13 ⟨rfl, rfl⟩
          refine Wk.p noti ?_
          refine Wk.p mvb ?_
          refine Wk.gp rfl mvi ?_
          refine Wk.gp rfl remi ?_
          refine Wk.gp rfl eqi ?_
          refine Wk.gp rfl mvb ?_
          refine Wk.gp h19 (ldw (cs := #[.slice (some ⟨gp, 0, none⟩) 2 2, .slice (some ⟨gb, 0, none⟩) 1 1]) ag_api_Func (i := 0) rfl rfl) ?_
          refine Wk.gp h19 mvi ?_
          refine Wk.gp h19 mvi ?_
          refine Wk.gx (V := NewSv 3 1 2 2 (ints [a, b])) hu h19 (NewS.adds (bsv (ints [a, b]) sl_L_int zr_int (by simp [ints, Value.cells]))) ?_
          rintro _ _ hu23 ⟨g137, rfl, rfl⟩
          refine Wk.gp h19 mvi ?_
          refine Wk.gp h19 remi ?_
          refine Wk.gp h19 (slh (A := some ⟨g137, 0, none⟩) (n := 2) (c := 2) (h := n % 3) sl_L_int (by omega) (hy := congrArg (Value.int .i64) (tmodn n 3))) ?_
          refine Wk.gx (V := NewSv 3 1 1 1 (ints [5])) hu h19 (NewS.adds (bsv (ints [5]) sl_L_int zr_int (by simp [ints, Value.cells]))) ?_
          rintro _ _ hu27 ⟨g141, rfl, rfl⟩
          refine Wk.gp h19 mvi ?_
          refine Wk.gp h19 remi ?_
          refine Wk.gp h19 (addi (hr := by omega)) ?_
          refine Wk.gxn (V := Is (.bool true)) hu h19 (l := [23, 27]) rfl (by simp) (by rw [needs_cons hu23, needs_cons hu27, needs_none]; exact (sp_call (vs := [(RE gp gi gb i t).val, .slice (some ⟨g137, 0, none⟩) (n % 3) 2, .slice (some ⟨g141, 0, none⟩) 1 1, .slice none 0 0, .int .i64 (20000 + (n : Int).tmod 2)]) en_law08_RunDoes (fun M w' hh => does_ct (f := RE gp gi gb i t) (args := [a, b].take (n % 3)) (mem := [5]) (ans := []) (RE_at (Reads.row hh (i := 5) rfl) (Reads.row hh (i := 3) rfl) (Reads.row hh (i := 4) rfl) ((hX w w.heap.size).keep (.sub (.cons _ (.cons _ (.cons _ (.cons _ (.cons _ (.cons _ (.cons _ (List.Sublist.refl _))))))))) M w' hh)) (RE_fit hi ht) (by rw [List.length_take]; simp; omega) rfl rfl (ints_pre (Reads.row hh (i := 0) rfl) (by omega)) (Reads.row hh (i := 1) rfl) reads_no (by omega)))) ?_
          rintro _ _ hu31 ⟨rfl, rfl⟩
          refine Wk.gp h19 noti ?_
          refine Wk.gp rfl (pkTb h19) ?_
          refine Wk.p (pkFb rfl) ?_
          refine Wk.nil ?_
          rw [needs_cons hu31, needs_cons hu27, needs_cons hu23, needs_cons hu13, needs_cons hu6, needs_cons hu3, needs_none]
          refine Ol.nil ?_
          exact ⟨⟨rfl, rfl, rfl, rfl, trivial⟩, .sub (.cons _ (.cons _ (.cons _ (.cons _ (.cons _ (.cons _ (.cons _ (.cons _ (.cons_cons _ (List.nil_sublist _))))))))))⟩
      rintro σ' L' ⟨hs', hkp⟩
      refine Cd.keep hkp ?_
      refine Cd.has hs' ?_
      clear hs' hkp
      refine Cd.cond rfl (fun h => nomatch h) (fun h => ?_)   -- $148
      refine Cd.skip ?_
      refine Cd.region ?_
      refine Ol.p mvi ?_
      refine Ol.p addi ?_
      refine Ol.p asi ?_
      refine Ol.nil ?_
      exact ⟨121 - (n + 1), by omega, n + 1, rfl, by omega, ⟨rfl, rfl, rfl, trivial⟩, rfl⟩
    refine Cd.exit (id := 2) ?_
    refine Cd.region ?_
    refine Ol.p mvi ?_
    refine Ol.p addi ?_
    refine Ol.p asi ?_
    refine Ol.nil ?_
    exact ⟨19 - (o + 1), by omega, o + 1, rfl, by omega, ⟨rfl, rfl, trivial⟩, rfl⟩
  refine Cd.exit (id := 0) ?_
  refine Cd.keep (L' := []) Keep.nil ?_
  refine Cd.seq ?_
  refine Cd.region ?_
  refine Ol.x (bsv (ints [1]) sl_L_int zr_int (by simp [ints, Value.cells])) ?_
  rintro _ _ ⟨gp, rfl, rfl⟩
  refine Ol.p (bds (cs := K1.cells.toArray) bs_api_Ins zr_api_Ins (hf := by kernel_rfl)) ?_
  refine Ol.x (bsn [K1.val] sl_L_api_Ins zr_api_Ins (by intro v hv; simp at hv; subst hv; rfl) rfl (by decide) (by decide)) ?_
  rintro _ _ ⟨g1, rfl, rfl⟩
  refine Ol.p (bda (cs := #[.int .i64 1, .int .i64 0]) ar_A2_int zr_A2_int (hf := by kernel_rfl)) ?_
  refine Ol.p (bds (cs := (Tm.cells ⟨1, 0, 1, 0⟩).toArray) bs_api_Term zr_api_Term (hf := by kernel_rfl)) ?_
  refine Ol.p (bds (cs := (RBlk.cells ⟨some ⟨g1, 0, none⟩, 1, [K1], ⟨1, 0, 1, 0⟩⟩).toArray) bs_api_Block zr_api_Block (hf := by kernel_rfl)) ?_
  refine Ol.p (bds (cs := K2.cells.toArray) bs_api_Ins zr_api_Ins (hf := by kernel_rfl)) ?_
  refine Ol.x (bsn [K2.val] sl_L_api_Ins zr_api_Ins (by intro v hv; simp at hv; subst hv; rfl) rfl (by decide) (by decide)) ?_
  rintro _ _ ⟨g2, rfl, rfl⟩
  refine Ol.p (bda (cs := #[.int .i64 1, .int .i64 2]) ar_A2_int zr_A2_int (hf := by kernel_rfl)) ?_
  refine Ol.p (bds (cs := (Tm.cells ⟨2, 1, 1, 2⟩).toArray) bs_api_Term zr_api_Term (hf := by kernel_rfl)) ?_
  refine Ol.p (bds (cs := (RBlk.cells ⟨some ⟨g2, 0, none⟩, 1, [K2], ⟨2, 1, 1, 2⟩⟩).toArray) bs_api_Block zr_api_Block (hf := by kernel_rfl)) ?_
  refine Ol.p (bds (cs := (Tm.cells ⟨4, 0, 0, 0⟩).toArray) bs_api_Term zr_api_Term (hf := by kernel_rfl)) ?_
  refine Ol.p (bds (cs := (RBlk.cells ⟨none, 0, [], ⟨4, 0, 0, 0⟩⟩).toArray) bs_api_Block zr_api_Block (hf := by kernel_rfl)) ?_
  refine Ol.x (bsn [RBlk.val ⟨some ⟨g1, 0, none⟩, 1, [K1], ⟨1, 0, 1, 0⟩⟩, RBlk.val ⟨some ⟨g2, 0, none⟩, 1, [K2], ⟨2, 1, 1, 2⟩⟩, RBlk.val ⟨none, 0, [], ⟨4, 0, 0, 0⟩⟩] sl_L_api_Block zr_api_Block (by intro v hv; simp at hv; rcases hv with rfl | rfl | rfl <;> rfl) rfl (by decide) (by decide)) ?_
  rintro _ _ ⟨gb, rfl, rfl⟩
  refine Ol.p (bds (cs := #[.slice (some ⟨gp, 0, none⟩) 1 1, .slice (some ⟨gb, 0, none⟩) 3 3]) bs_api_Func zr_api_Func (hf := by kernel_rfl)) ?_
  refine Ol.x (alc zr_api_Func) ?_
  rintro _ _ ⟨g7, rfl, rfl⟩
  refine Ol.s (stw (vs := #[.slice (some ⟨gp, 0, none⟩) 1 1, .slice (some ⟨gb, 0, none⟩) 3 3]) sz_api_Func rfl (by intro u hu; simp at hu; rcases hu with rfl | rfl <;> rfl) (i := 0) rfl rfl) ?_
  refine Ol.nil ?_
  refine Cd.keep (L' := LL g7 gp g1 g2 gb) .all ?_
  refine Cd.seq ?_
  refine Cd.seq ?_
  refine Cd.region ?_
  refine Ol.p asi ?_
  refine Ol.nil ?_
  refine Cd.block ?_   -- 5
  refine Cd.loop (fun m σ L => ∃ k : Nat, m = 41 - k ∧ k ≤ 41 ∧ Has σ [(7, .pointer (some ⟨g7, 0, none⟩)), (8, .int .i64 ((k : Int) - 1))] ∧ LL g7 gp g1 g2 gb = L) (n := 41) ⟨0, rfl, Nat.zero_le _, ⟨rfl, rfl, trivial⟩, rfl⟩ ?_
  rintro _ σ L ⟨k, rfl, hk, hs, rfl⟩
  refine Cd.has hs ?_
  clear hs
  obtain ⟨n, hn⟩ : ∃ n, n = (k : Int) - 1 := ⟨_, rfl⟩
  rw [← hn]
  refine Cd.seq ?_
  refine Cd.seq ?_
  refine Cd.region ?_
  refine Ol.p mvi ?_
  refine Ol.p lsi ?_
  refine Ol.nil ?_
  refine Cd.cond rfl (fun h => ?_) (fun h => ?_)   -- $165
  · have hnl : n < 40 := of_decide_eq_true h
    have hd : ∃ q, q = IntKind.i64.wrap (n.tdiv 3) := ⟨_, rfl⟩
    obtain ⟨q, hq⟩ := hd
    refine Cd.skip ?_
    refine Cd.seq ?_
    refine Cd.block ?_   -- 6
    refine Cd.seq ?_
    refine Cd.region ?_
    refine Ol.p (ldw (cs := #[.slice (some ⟨gp, 0, none⟩) 1 1, .slice (some ⟨gb, 0, none⟩) 3 3]) ag_api_Func (i := 0) rfl rfl) ?_
    refine Ol.p mvi ?_
    refine Ol.x (bsv (ints [n]) sl_L_int zr_int (by simp [ints, Value.cells])) ?_
    rintro _ _ ⟨ga, rfl, rfl⟩
    refine Ol.p mvi ?_
    refine Ol.s (cl (v := .bool true) (vs := [(RLp gp g1 g2 gb).val, .slice (some ⟨ga, 0, none⟩) 1 1, .slice none 0 0, .slice none 0 0, .int .i64 n]) en_law08_RunDoes (fun M w' hh => does_ct (f := RLp gp g1 g2 gb) (args := [n]) (mem := []) (ans := []) (RLp_at (Reads.row hh (i := 5) rfl) (Reads.row hh (i := 2) rfl) (Reads.row hh (i := 4) rfl) (Reads.row hh (i := 3) rfl)) RLp_fit rfl rfl rfl (Reads.row hh (i := 0) rfl) reads_no reads_no (by omega))) ?_
    refine Ol.p noti ?_
    refine Ol.p mvb ?_
    refine Ol.gp rfl (ldw (cs := #[.slice (some ⟨gp, 0, none⟩) 1 1, .slice (some ⟨gb, 0, none⟩) 3 3]) ag_api_Func (i := 1) rfl rfl) ?_
    refine Ol.gp rfl mvi ?_
    refine Ol.gp rfl quoi ?_
    refine Ol.gx rfl (bsv (ints [IntKind.i64.wrap (n.tdiv 3)]) sl_L_int zr_int (by simp [ints, Value.cells])) ?_
    rintro _ _ ⟨ga2, rfl, rfl⟩
    refine Ol.gp rfl mvi ?_
    refine Ol.gp rfl (muli (hr := by omega)) ?_
    refine Ol.gs rfl (cl (v := .bool true) (vs := [(RLp gp g1 g2 gb).val, .slice (some ⟨ga2, 0, none⟩) 1 1, .slice none 0 0, .slice none 0 0, .int .i64 (2 * n)]) en_law08_RunDoes (fun M w' hh => does_ct (f := RLp gp g1 g2 gb) (args := [IntKind.i64.wrap (n.tdiv 3)]) (mem := []) (ans := []) (RLp_at (Reads.row hh (i := 6) rfl) (Reads.row hh (i := 3) rfl) (Reads.row hh (i := 5) rfl) (Reads.row hh (i := 4) rfl)) RLp_fit rfl rfl rfl (Reads.row hh (i := 0) rfl) reads_no reads_no (by omega))) ?_
    refine Ol.gp rfl noti ?_
    refine Ol.p (pkFb rfl) ?_
    refine Ol.nil ?_
    refine Cd.cond rfl (fun h => nomatch h) (fun h => ?_)   -- $183
    refine Cd.skip ?_
    refine Cd.keep (L' := LL g7 gp g1 g2 gb) (.sub (.cons _ (.cons _ (List.Sublist.refl _)))) ?_
    refine Cd.region ?_
    refine Ol.p mvi ?_
    refine Ol.p addi ?_
    refine Ol.p asi ?_
    refine Ol.nil ?_
    exact ⟨41 - (k + 1), by omega, k + 1, rfl, by omega, ⟨rfl, congrArg (Value.int .i64) (by omega), trivial⟩, rfl⟩
  refine Cd.exit (id := 5) ?_
  refine Cd.seq ?_
  refine Cd.region ?_
  refine Ol.p (ldw (cs := #[.slice (some ⟨gp, 0, none⟩) 1 1, .slice (some ⟨gb, 0, none⟩) 3 3]) ag_api_Func (i := 0) rfl rfl) ?_
  refine Ol.x (bsv (ints [0]) sl_L_int zr_int (by simp [ints, Value.cells])) ?_
  rintro _ _ ⟨ga, rfl, rfl⟩
  refine Ol.s (cl (v := .bool true) (vs := [(RLp gp g1 g2 gb).val, .slice (some ⟨ga, 0, none⟩) 1 1, .slice none 0 0, .slice none 0 0, .int .i64 20000]) en_law08_RunDoes (fun M w' hh => does_ct (f := RLp gp g1 g2 gb) (args := [0]) (mem := []) (ans := []) (RLp_at (Reads.row hh (i := 5) rfl) (Reads.row hh (i := 2) rfl) (Reads.row hh (i := 4) rfl) (Reads.row hh (i := 3) rfl)) RLp_fit rfl rfl rfl (Reads.row hh (i := 0) rfl) reads_no reads_no (by omega))) ?_
  refine Ol.p mvb ?_
  refine Ol.gp rfl (bds (cs := #[.slice none 0 0, .slice none 0 0]) bs_api_Func zr_api_Func (hf := by kernel_rfl)) ?_
  refine Ol.gs rfl (cl (v := .bool true) (vs := [RFun.val ⟨none, 0, [], none, 0, []⟩, .slice none 0 0, .slice none 0 0, .slice none 0 0, .int .i64 5]) en_law08_RunDoes (fun M w' hh => does_ct (f := ⟨none, 0, [], none, 0, []⟩) (args := []) (mem := []) (ans := []) none_at none_fit rfl rfl rfl reads_no reads_no reads_no (by omega))) ?_
  refine Ol.p (pkTb rfl) ?_
  refine Ol.p mvb ?_
  refine Ol.gs rfl (cl (v := .bool true) en_law08_none (fun M w' hh => law08_none_ct)) ?_
  refine Ol.p (pkTb rfl) ?_
  refine Ol.p mvb ?_
  refine Ol.gs rfl (cl (v := .bool true) en_law08_awake (fun M w' hh => law08_awake_ct)) ?_
  refine Ol.p (pkTb rfl) ?_
  refine Ol.p asb ?_
  refine Ol.nil ?_
  exact Cd.ret ⟨.bool true, ret1 rfl rfl, [], Keep.nil, rfl, rfl⟩
end
end Go.Proofs.YtjenaenakopicaaGreat

/- RunEnds: for every input that can be read, the law RunEnds returns true and its arguments read as before. Conditions: the row. -/
namespace Go.Proofs.YtjenaenakopicaaGreat
set_option linter.unusedVariables false
open Go Go.ChangeShapes Go.WideShapes Go.ChangeAt Go.RowKit
set_option maxRecDepth 100000

theorem runEnds_lifted (os : Os) (started : os.Started) (H : Type) (enc : TypeId × Value → H) :
    ReturnsInHanded {} Tryz.checked os 5 .any (Rows.runEndsSpec.pre6 enc Tryz.prog Tryz.f5 Rows.runEndsRow.domain false) (Rows.runEndsSpec.post enc Tryz.prog Tryz.f5 false true false false) := by
  refine returnsInHanded_of_change_sized (C := Tryz.checked) own_ started (by kernel_rfl) Tryz.func5
    (ChangeSpec.witness6 (enc := enc) (C := Tryz.checked) false ⟨#[], #[], []⟩ 8 (by kernel_rfl) (by kernel_rfl) (by kernel_rfl) (by kernel_rfl)) ?_
  intro W base args ds gs before hval0 hW _ hsz0 _
  have hval : ∀ (j : Nat) t v, Tryz.f5.params[j]? = some t → args[j]? = some v → Value.okWide Tryz.prog W .any base t v := hval0
  have hW' := hW
  obtain ⟨p, q, hA0, hV, rfl, hfz, hnd⟩ := hW
  have hA : DataW.TrodAll enc Tryz.prog W 0 (fun _ => true) true Tryz.f5.params.toList args.toList ds p := hA0
  have hsz : (DataW.weightsEach Tryz.prog (Tryz.f5.params.toList ++ Rows.runEndsSpec.plain.varTypes Tryz.prog) (ds ++ gs)).all (· ≤ reachBytes) = true := hsz0
  rw [Tryz.params5] at hA hval hsz
  obtain ⟨hargs, rfl, rfl⟩ := trodAll_nil hA
  obtain rfl : args = #[] := by cases args; simp_all
  obtain ⟨rfl, rfl⟩ := trodVars_none hV
  clear hA0 hval0
  refine ((law08_RunEnds_ct ).calls).mono fun e W' ⟨v, he, L, hh, hv, _⟩ => ?_
  subst hv
  subst he
  have bel := hh.below
  exact ⟨_, rfl, _, _, _, [], _, [], hW', trodAll_mk1 (shut_bool Tryz.underlying4 _), trodAll_mk0, rfl, bel.frame _, fun h => by cases h⟩
theorem runEnds_said : Rows.RunEndsSaid :=
  OpenClaim.holds_of_wide 5 Tryz.f5 rfl rfl rfl rfl rfl rfl rfl ⟨rfl, rfl, rfl, rfl, rfl⟩ rfl rfl rfl rfl rfl (by kernel_rfl) Tryz.func5 (by kernel_rfl)
    (of_decide_eq_true (by kernel_rfl)) (by unfold Func.isWrapper; rw [if_neg (of_decide_eq_false (by kernel_rfl))]; exact ⟨rfl, rfl⟩)
    (fun os started H enc _ => runEnds_lifted os started H enc)
end Go.Proofs.YtjenaenakopicaaGreat

