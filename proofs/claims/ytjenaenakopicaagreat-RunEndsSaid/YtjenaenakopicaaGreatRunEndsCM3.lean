/- Part 3 of the proof of RunEndsC: the texts Own, RunM, RunI, RunJ, RunK, RunX, RunY, RunL, RunG, Ref08A, Ref08B, Ref08C, Ref08D, DrawU, Ref08E, Flow2, Flow3, Order, Struct, Law10, IrVars, one behind the other. -/
import Derived.Laws.StructEq
import Derived.Test.YtjenaenakopicaaGreatRunEndsCM2
/- A function in memory of its own: what is held of it; copies, walked. -/
namespace Go.Proofs.YtjenaenakopicaaGreat
set_option linter.unusedVariables false
open Go Go.RowKit
set_option maxRecDepth 100000

def insRes (i : RIns) : Res := row (.slice i.aA i.args.length i.aC) 3 1 i.args.length (ints i.args)
def insRow (b : RBlk) : Res := row (.slice b.iA b.ins.length b.iC) 25 8 b.ins.length (b.ins.flatMap RIns.cells)
def blkRes (b : RBlk) : List Res := insRow b :: b.ins.map insRes
def prmRow (f : RFun) : Res := row (.slice f.pA f.params.length f.pC) 3 1 f.params.length (ints f.params)
def blkRow (f : RFun) : Res := row (.slice f.bA f.blocks.length f.bC) 34 5 f.blocks.length (f.blocks.flatMap RBlk.cells)
def funRes (f : RFun) : List Res := prmRow f :: blkRow f :: f.blocks.flatMap blkRes
theorem mem_blkRes {f : RFun} {b : RBlk} {r : Res} (hb : b ∈ f.blocks) (hr : r ∈ blkRes b) : r ∈ funRes f := by
  unfold funRes
  exact List.mem_cons_of_mem _ (List.mem_cons_of_mem _ (List.mem_flatMap.2 ⟨b, hb, hr⟩))
section
variable {w0 w : World} {B : Nat} {M L : List Res} {g : RFun}
theorem cap_row {A : Option Addr} {n c e s : Nat} {xs : List Value} (h : w.ownsRow 0 e s (.slice A n c) n xs) : n ≤ c := by
  rcases h.2 with ⟨hv, h0⟩ | ⟨g, cap, cur, hv, _, _, hn, _⟩
  · omega
  · injection hv with _ _ hc
    omega
/-- Its numbers are numbers, it is not endless. -/
structure FitC (f : RFun) : Prop where
  params : ∀ n ∈ f.params, -9223372036854775808 ≤ n ∧ n ≤ 9223372036854775807
  plen : f.params.length < 2 ^ 50
  blen : f.blocks.length < 2 ^ 50
  ilen : ∀ b ∈ f.blocks, b.ins.length < 2 ^ 50
  term : ∀ b ∈ f.blocks, ∀ n ∈ [b.term.kind, b.term.a, b.term.t0, b.term.t1], -9223372036854775808 ≤ n ∧ n ≤ 9223372036854775807
  insr : ∀ b ∈ f.blocks, ∀ i ∈ b.ins, ∀ n ∈ [i.op, i.dst, i.a, i.b, i.imm, i.callee, i.many], -9223372036854775808 ≤ n ∧ n ≤ 9223372036854775807
  alen : ∀ b ∈ f.blocks, ∀ i ∈ b.ins, i.args.length < 2 ^ 50
  argr : ∀ b ∈ f.blocks, ∀ i ∈ b.ins, ∀ n ∈ i.args, -9223372036854775808 ≤ n ∧ n ≤ 9223372036854775807
theorem Fit.c {f : RFun} (h : Fit f) : FitC f := ⟨h.params, h.plen, h.blen, h.ilen, h.term, h.insr, h.alen, h.argr⟩
theorem FitC.bare {f : RFun} (h : FitC f) : FitC f.bare := by
  have hb : ∀ b ∈ f.bare.blocks, ∃ y ∈ f.blocks, b = y.bare := fun b hb => by
    obtain ⟨y, hy, e⟩ := List.mem_map.1 hb
    exact ⟨y, hy, e.symm⟩
  have hi : ∀ (y : RBlk), ∀ i ∈ y.bare.ins, ∃ j ∈ y.ins, i = j.bare := fun y i hi => by
    obtain ⟨j, hj, e⟩ := List.mem_map.1 hi
    exact ⟨j, hj, e.symm⟩
  refine ⟨h.params, h.plen, by simpa [RFun.bare] using h.blen, fun b hb' => ?_, fun b hb' => ?_, fun b hb' i hi' => ?_, fun b hb' i hi' => ?_, fun b hb' i hi' => ?_⟩
  · obtain ⟨y, hy, rfl⟩ := hb b hb'
    simpa [RBlk.bare] using h.ilen y hy
  · obtain ⟨y, hy, rfl⟩ := hb b hb'
    exact h.term y hy
  all_goals
    obtain ⟨y, hy, rfl⟩ := hb b hb'
    obtain ⟨j, hj, rfl⟩ := hi y i hi'
    first | exact h.insr y hy j hj | exact h.alen y hy j hj | exact h.argr y hy j hj
theorem FitC.unbare {f : RFun} (h : FitC f.bare) : FitC f := by
  have hb : ∀ b ∈ f.blocks, b.bare ∈ f.bare.blocks := fun b hb => List.mem_map_of_mem hb
  have hi : ∀ (y : RBlk), ∀ i ∈ y.ins, i.bare ∈ y.bare.ins := fun y i hi => List.mem_map_of_mem hi
  exact ⟨h.params, h.plen, by simpa [RFun.bare] using h.blen, fun b hb' => by simpa [RBlk.bare] using h.ilen _ (hb b hb'), fun b hb' => h.term b.bare (hb b hb'), fun b hb' i hi' => h.insr b.bare (hb b hb') i.bare (hi b i hi'), fun b hb' i hi' => h.alen b.bare (hb b hb') i.bare (hi b i hi'), fun b hb' i hi' => h.argr b.bare (hb b hb') i.bare (hi b i hi')⟩
theorem FitC.same {f : RFun} (h : FitC f) (e : g.bare = f.bare) : FitC g := FitC.unbare (e ▸ h.bare)
end
theorem one_flatI (l : List RIns) : ∀ u ∈ l.flatMap RIns.cells, u.oneCell' = true := fun u hu => by
  obtain ⟨i, _, h⟩ := List.mem_flatMap.1 hu
  exact i.one u h
theorem one_flatB (l : List RBlk) : ∀ u ∈ l.flatMap RBlk.cells, u.oneCell' = true := fun u hu => by
  obtain ⟨i, _, h⟩ := List.mem_flatMap.1 hu
  exact i.one u h
theorem one_ints (l : List Int) : ∀ u ∈ ints l, u.oneCell' = true := fun u hu => by
  obtain ⟨n, _, rfl⟩ := List.mem_map.1 hu
  rfl
/-- The place of a row in what is held; written, it is the row of another. -/
theorem flat_set {α β : Type} {F : α → List β} {x x' : α} {q : Nat} {A A' : β} (hA : (F x)[q]? = some A) (hx' : F x' = (F x).set q A') : ∀ {l : List α} {b : Nat}, l[b]? = some x → ∃ j, (l.flatMap F)[j]? = some A ∧ (l.flatMap F).set j A' = (l.set b x').flatMap F
  | [], b, h => by simp at h
  | y :: l, 0, h => by
    have e : y = x := by simpa using h
    subst e
    have hq := (List.getElem?_eq_some_iff.1 hA).1
    refine ⟨q, ?_, ?_⟩
    · rw [List.flatMap_cons, List.getElem?_append_left hq]; exact hA
    · rw [List.flatMap_cons, List.set_append_left _ _ hq, List.set_cons_zero, List.flatMap_cons, hx']
  | y :: l, b + 1, h => by
    obtain ⟨j, h1, h2⟩ := flat_set hA hx' (l := l) (b := b) (by simpa using h)
    refine ⟨(F y).length + j, ?_, ?_⟩
    · rw [List.flatMap_cons, List.getElem?_append_right (by omega)]
      rw [show (F y).length + j - (F y).length = j by omega]; exact h1
    · rw [List.flatMap_cons, List.set_append_right _ _ (by omega), show (F y).length + j - (F y).length = j by omega, h2, List.set_cons_succ, List.flatMap_cons]
/-- A slice's literal of one value of several cells. -/
theorem bs1 {P : Program} {w0 : World} {B : Nat} {σ : Env} {L : List Res} {d : Option Nat} {ty T : TypeId} {pos : String} {af : Array Edge} {gd : Option (Nat × Bool)} {e s b : Nat} {parts : List (Nat × Operand)} {zv v : Value} {cs : List Value} (hT : SlT P T e s b) (hz : ZrT P e zv) (hv : v.cells = cs.toArray) (hs : cs.length = s) (hb : s ≤ 16777216 := by decide) (hp : parts.map (fun p => (p.1, ev σ p.2)) = [(0, v)] := by exact rfl) :
    Sp P w0 B ⟨d, .buildSlice T 1 parts.toArray, ty, pos, af, gd⟩ σ L (NewS e s 1 1 cs L) := by
  have hvs : ∀ u ∈ [v], u.cells.size = s := by
    intro u hu
    simp only [List.mem_singleton] at hu
    rw [hu, hv]; simpa using hs
  have h := bsn (d := d) (ty := ty) (pos := pos) (af := af) (gd := gd) (P := P) (w0 := w0) (B := B) (L := L) [v] hT hz hvs rfl (by simp only [List.length_singleton]; omega) (by simp [maxLen]) hp
  have e1 : [v].flatMap (fun v => v.cells.toList) = cs := by simp [hv]
  rwa [e1] at h
theorem flat_set_at {α β : Type} {F : α → List β} {s : Nat} (hs : ∀ x, (F x).length = s) {c : Nat} {A' : β} {x x' : α} (hc : c < s) (hx' : F x' = (F x).set c A') : ∀ {l : List α} {k : Nat}, l[k]? = some x → (l.flatMap F).set (k * s + c) A' = (l.set k x').flatMap F
  | [], k, h => by simp at h
  | y :: l, 0, h => by
    have e : y = x := by simpa using h
    subst e
    rw [List.flatMap_cons, Nat.zero_mul, Nat.zero_add, List.set_append_left _ _ (by rw [hs]; exact hc), List.set_cons_zero, List.flatMap_cons, hx']
  | y :: l, k + 1, h => by
    have ih := flat_set_at hs hc hx' (l := l) (k := k) (by simpa using h)
    rw [List.flatMap_cons, List.set_append_right _ _ (by rw [hs, Nat.add_mul]; omega), hs, show (k + 1) * s + c - s = k * s + c by rw [Nat.add_mul]; omega, ih, List.set_cons_succ, List.flatMap_cons]
def RFun.with (g : RFun) (bs : List RBlk) : RFun := { g with blocks := bs }
/-- The k first ones have turned. -/
def turnTo {α : Type} (r : α → α) (l : List α) (k : Nat) : List α := (l.take k).map r ++ l.drop k
def RIns.at_ (i : RIns) (A : Option Addr) (c : Nat) : RIns := { i with aA := A, aC := c }
def RBlk.at_ (b : RBlk) (A : Option Addr) (c : Nat) (l : List RIns) : RBlk := { b with iA := A, iC := c, ins := l }
theorem RBlk.at_bare {b : RBlk} {A : Option Addr} {c : Nat} {l : List RIns} (h : l.map RIns.bare = b.ins.map RIns.bare) : (b.at_ A c l).bare = b.bare := by
  unfold RBlk.bare RBlk.at_
  simp only [h]
/-- A list of blocks that can be read from outside. -/
structure BlksIn (w : World) (B : Nat) (A : Option Addr) (l : List RBlk) : Prop where
  row : Reads w B 5 A l.length (l.flatMap RBlk.cells)
  ins : ∀ b ∈ l, Reads w B 8 b.iA b.ins.length (b.ins.flatMap RIns.cells)
  args : ∀ b ∈ l, ∀ i ∈ b.ins, Reads w B 1 i.aA i.args.length (ints i.args)
  len : l.length < 2 ^ 36
  ilen : ∀ b ∈ l, b.ins.length < 2 ^ 36
  alen : ∀ b ∈ l, ∀ i ∈ b.ins, i.args.length < 2 ^ 44
theorem BlksIn.now {w0 w : World} {B : Nat} {A : Option Addr} {l : List RBlk} {L : List Res} (h : BlksIn w0 B A l) (hh : Hp w0 B L w) : BlksIn w w.heap.size A l :=
  ⟨h.row.now hh, fun b hb => (h.ins b hb).now hh, fun b hb i hi => (h.args b hb i hi).now hh, h.len, h.ilen, h.alen⟩
end Go.Proofs.YtjenaenakopicaaGreat

/- The package run: a run as it lies in memory; its parts, walked. -/
namespace Go.Proofs.YtjenaenakopicaaGreat
set_option linter.unusedVariables false
open Go Go.RowKit
set_option maxRecDepth 100000

/-- A call that was noted. -/
structure CRec where
  callee : Int
  A : Option Addr
  c : Nat
  args : List Int
def CRec.cells (r : CRec) : List Value := [.int .i64 r.callee, .slice r.A r.args.length r.c]
def callRes (r : CRec) : Res := row (.slice r.A r.args.length r.c) 3 1 r.args.length (ints r.args)
theorem CRec.len (r : CRec) : r.cells.length = 2 := rfl
theorem CRec.one (r : CRec) : ∀ u ∈ r.cells, u.oneCell' = true := by
  intro u hu
  simp [CRec.cells] at hu
  rcases hu with rfl | rfl <;> rfl
/-- A run's state. -/
structure RSt where
  vars : Int → Option Int
  b : Nat
  i : Nat
  e : Int
  v : Int
  mem : List Int
  ans : List Int
  calls : List (Int × List Int)
  steps : Nat
def RSt.get (s : RSt) (k : Int) : Int := (s.vars k).getD 0
def updI (f : Int → Option Int) (k v : Int) : Int → Option Int := fun x => if x = k then some v else f x
def memAt (s : RSt) (n : Int) : Option Nat := if 0 ≤ n ∧ n < (s.mem.length : Int) then some n.toNat else none
def callS (s : RSt) (i : RIns) : RSt := { s with calls := s.calls ++ [(i.callee, i.args.map s.get)] }
def callF (s : RSt) (i : RIns) : RSt × Int × Bool := match s.ans with
  | [] => (callS s i, 0, false)
  | n :: r => ({ callS s i with ans := r }, n, true)
def memF (s : RSt) (i : RIns) : RSt × Int × Bool := match memAt s (wI (s.get i.a + i.imm)) with
  | none => (s, i.imm, false)
  | some n => if i.op = 12 then ({ s with mem := s.mem.set n (s.get i.b) }, s.get i.b, true) else (s, s.mem.getD n 0, true)
/-- What an instruction comes to: a value, or none. -/
def insV (s : RSt) (i : RIns) : RSt × Int × Bool :=
  if i.op = 1 then (s, i.imm, true) else if i.op = 14 then (s, s.get i.a, true) else if i.op = 13 then callF s i else
  if i.op = 11 ∨ i.op = 12 then memF s i else (s, (calcF i.op (s.get i.a) (s.get i.b)).1, (calcF i.op (s.get i.a) (s.get i.b)).2)
/-- Where it stands then, or how it has ended. -/
inductive Nx where
  | spot (b i : Int)
  | done (e v : Int)
def Nx.val : Nx → Value | .spot b i => .iface 89 (.agg #[.int .i64 b, .int .i64 i]) | .done e v => .iface 91 (.agg #[.int .i64 e, .int .i64 v])
def insS (s : RSt) (i : RIns) (v : Int) : RSt := if 0 < i.dst then { s with vars := updI s.vars i.dst v } else s
def insF (s : RSt) (i : RIns) : RSt × Nx := if (insV s i).2.2 = true then (insS (insV s i).1 i (insV s i).2.1, .spot (insV s i).1.b ((insV s i).1.i + 1)) else ((insV s i).1, .done 2 0)
def termF (s : RSt) (t : Tm) : Nx := if t.kind = 3 then .done 1 (s.get t.a) else if t.kind = 4 then .done 2 0 else if t.kind = 2 ∧ s.get t.a = 0 then .spot t.t1 0 else .spot t.t0 0
/-- Where a run lies. -/
structure RLay where
  gR : Nat
  gM : Nat
  es : Array MapEntry
  cl : Nat
  mA : Option Addr
  mC : Nat
  aA : Option Addr
  aC : Nat
  cA : Option Addr
  cC : Nat
  recs : List CRec
  g : RFun
  a0 : Res
section
def runCells (y : RLay) (s : RSt) : Array Value := #[.map (some y.gM), .int .i64 s.b, .int .i64 s.i, .int .i64 s.e, .int .i64 s.v, .slice y.g.pA y.g.params.length y.g.pC, .slice y.g.bA y.g.blocks.length y.g.bC, .slice y.mA s.mem.length y.mC, .slice y.aA s.ans.length y.aC, .slice y.cA s.calls.length y.cC, .int .i64 s.steps]
def memRow (y : RLay) (s : RSt) : Res := row (.slice y.mA s.mem.length y.mC) 3 1 s.mem.length (ints s.mem)
def callRow (y : RLay) (s : RSt) : Res := row (.slice y.cA s.calls.length y.cC) 106 2 s.calls.length (y.recs.flatMap CRec.cells)
def runT (y : RLay) : List Res := y.recs.map callRes ++ funRes y.g
def runL (y : RLay) (s : RSt) : List Res := [blk y.gR (.cells (runCells y s) 93), blk y.gM (.map y.es y.cl), memRow y s, y.a0, callRow y s] ++ runT y
structure RunOk (w0 : World) (B : Nat) (y : RLay) (s : RSt) : Prop where
  all : AllI y.es.toList
  get : ∀ k, mget y.es.toList k = (s.vars k).map fun n => .int .i64 n
  calls : s.calls = y.recs.map fun r => (r.callee, r.args)
  ans : RdS w0 B [y.a0] 1 y.aA s.ans.length (ints s.ans)
  acap : s.ans.length ≤ y.aC
theorem RunOk.getD {w0 : World} {B : Nat} {y : RLay} {s : RSt} (h : RunOk w0 B y s) (k : Int) : (mget y.es.toList k).getD (.int .i64 0) = .int .i64 (s.get k) := by
  rw [h.get]
  unfold RSt.get
  cases s.vars k <;> rfl
theorem Adds.more {P : Program} {w0 : World} {B : Nat} {σ : Env} {r : Res} {L : List Res} {o : Oper} {R : Value → List Res → Prop} (h : Sp P w0 B o σ (r :: L) (Adds R (r :: L))) : Sp P w0 B o σ (r :: L) (Adds (fun v T => ∃ T0, T = T0 ++ [r] ∧ R v T0) L) := fun M w hh =>
  Goes.mono (h M w hh) fun v w' ⟨L', h1, T, h2, h3⟩ => ⟨L', h1, T ++ [r], by rw [h2]; simp, T, rfl, h3⟩
end
section
theorem run_vars_all_ct {w : World} {gM cl c : Nat} {es : Array MapEntry} {A : Option Addr} {l : List Int} {s : RSt} (hb : gM < w.heap.size) (hg : w.heap[gM]? = some (.map es cl)) (ha : AllI es.toList) (hget : ∀ k, (mget es.toList k).getD (.int .i64 0) = .int .i64 (s.get k)) (hl : Reads w w.heap.size 1 A l.length (ints l)) (hlen : l.length < 2 ^ 44) :
    Ct Tryz.prog 137 #[.map (some gM), .slice A l.length c] w (NewL 3 1 (l.map s.get).length (ints (l.map s.get))) := by
  refine Ct.mk Tryz.func137 rfl rfl ?_
  refine Cd.nr 3 1 ?_
  refine Cd.seq ?_
  refine Cd.region ?_
  refine Ol.p ass ?_
  refine Ol.nil ?_
  refine Cd.seq ?_
  refine Cd.seq ?_
  refine Cd.region ?_
  refine Ol.p mvs ?_
  refine Ol.p (lens sl_L_int) ?_
  refine Ol.p mvi ?_
  refine Ol.nil ?_
  refine Cd.block ?_
  refine Cd.loop (fun m σ L => ∃ k A' c', m = l.length - k ∧ k ≤ l.length ∧ Has σ [(0, .map (some gM)), (4, .slice A' k c'), (7, .slice A l.length c), (8, .int .i64 l.length), (9, .int .i64 k)] ∧ [row (.slice A' k c') 3 1 k (ints ((l.take k).map s.get))] = L) (n := l.length) ⟨0, none, 0, rfl, Nat.zero_le _, ⟨rfl, rfl, rfl, rfl, rfl, trivial⟩, rfl⟩ ?_
  rintro _ σ L ⟨k, A', c', rfl, hk, hs, rfl⟩
  refine Cd.has hs ?_
  clear hs
  refine Cd.seq ?_
  refine Cd.region ?_
  refine Ol.p lsi ?_
  refine Ol.nil ?_
  refine Cd.seq ?_
  refine Cd.cond rfl (fun h => ?_) (fun h => ?_)
  · have hlt : k < l.length := by
      simp only [decide_eq_true_eq] at h; omega
    obtain ⟨n, hn⟩ : ∃ n, l[k]? = some n := ⟨_, List.getElem?_eq_getElem hlt⟩
    refine Cd.skip ?_
    refine Cd.seq ?_
    refine Cd.block ?_
    refine Cd.seq ?_
    refine Cd.region ?_
    refine Ol.p (ixn1 (ix := k) sl_L_int (Som.slc hl (by omega))) ?_
    refine Ol.p (ld one_int (Rd.slc hl (ints_at hn))) ?_
    refine Ol.p asi ?_
    refine Ol.nil ?_
    refine Cd.region ?_
    refine Ol.p mvs ?_
    refine Ol.p mvm ?_
    refine Ol.p mvi ?_
    refine Ol.p (lkw mt_run_vars hb hg ha (hget n)) ?_
    refine Ol.x (bsv [.int .i64 (s.get n)] sl_L_int zr_int (by simp [Value.cells])) ?_
    rintro _ _ ⟨g17, rfl, rfl⟩
    refine Ol.x (apn (i := 1) (m := 1) sl_L_int zr_int rfl (by decide) rfl (Src.row (i := 0) rfl rfl) (by intro u hu; simp at hu; subst hu; rfl) (by unfold maxLen; omega) (by omega)) ?_
    rintro _ _ ⟨A2, c2, rfl, rfl⟩
    refine Ol.p ass ?_
    refine Ol.keep (.sub (.cons _ (List.Sublist.refl _))) ?_
    refine Ol.nil ?_
    refine Cd.region ?_
    refine Ol.p addi ?_
    refine Ol.p mvi ?_
    refine Ol.nil ?_
    refine ⟨l.length - (k + 1), by omega, k + 1, A2, c2, rfl, by omega, ⟨rfl, rfl, rfl, rfl, rfl, trivial⟩, ?_⟩
    have e : ints ((l.take (k + 1)).map s.get) = ints ((l.take k).map s.get) ++ [.int .i64 (s.get n)] := by rw [take_snoc_ hn]; simp [ints]
    rw [e]
    rfl
  have hke : k = l.length := by
    simp only [decide_eq_false_iff_not] at h; omega
  subst hke
  refine Cd.exit (id := 0) ?_
  refine Cd.seq ?_
  refine Cd.region ?_
  refine Ol.p mvs ?_
  refine Ol.p ass ?_
  refine Ol.nil ?_
  rw [List.take_of_length_le (Nat.le_refl _)]
  refine Cd.ret ⟨.slice A' l.length c', ret1 rfl rfl, _, .all, A', c', by rw [List.length_map], ?_⟩
  rw [List.length_map]
end
section
def wordV (y : RLay) (s : RSt) (i : RIns) : Value := match memAt s (wI (s.get i.a + i.imm)) with
  | none => .tuple #[.pointer none, .bool false]
  | some n => .tuple #[.pointer (some (ap y.mA n)), .bool true]
theorem wI_range (a : Int) : -9223372036854775808 ≤ wI a ∧ wI a ≤ 9223372036854775807 := by
  have e : wI a = if a % 18446744073709551616 ≥ 9223372036854775808 then a % 18446744073709551616 - 18446744073709551616 else a % 18446744073709551616 := by
    simp [wI, IntKind.wrap, IntKind.bits, IntKind.signed]
  rw [e]
  split <;> omega
theorem memAt_test {s : RSt} {a : Int} (hn : s.mem.length < 2 ^ 60) : decide (IntKind.u64.wrap ((s.mem.length : Nat) : Int) ≤ IntKind.u64.wrap (wI a)) = (memAt s (wI a)).isNone := by
  have e1 : IntKind.u64.wrap ((s.mem.length : Nat) : Int) = (s.mem.length : Int) % 18446744073709551616 := rfl
  have e2 : IntKind.u64.wrap (wI a) = wI a % 18446744073709551616 := rfl
  have h1 := wI_range a
  rw [e1, e2]
  unfold memAt
  by_cases h : 0 ≤ wI a ∧ wI a < (s.mem.length : Int)
  · rw [if_pos h]
    show _ = false
    rw [decide_eq_false_iff_not]; omega
  · rw [if_neg h]
    show _ = true
    rw [decide_eq_true_iff]; omega
theorem run_word_cm {w0 : World} {B : Nat} {y : RLay} {s : RSt} {i : RIns} (hok : RunOk w0 B y s) (hm : s.mem.length < 2 ^ 60) : Cm Tryz.prog 101 #[.pointer (some ⟨y.gR, 0, none⟩), i.val] w0 B (runL y s) (fun v L => v = wordV y s i ∧ L = runL y s) := by
  refine Cm.mk Tryz.func101 rfl rfl fun M => ?_
  refine Cd.seq ?_
  refine Cd.region ?_
  refine Ol.x bxg ?_
  rintro _ _ ⟨g3, rfl, rfl⟩
  refine Ol.p asp ?_
  refine Ol.p asb ?_
  refine Ol.nil ?_
  refine Cd.seq ?_
  refine Cd.draw mixed 10 (fun _ => none) (fun _ => []) (by kernel_rfl) (fun _ _ h => by cases h) (fun u hu => ?_)
  refine Wk.p mvp ?_
  refine Wk.p nlc ?_
  refine Wk.p (fdl fd_run_Run_0) ?_
  refine Wk.p (ld (v := .map (some y.gM)) one_run_vars (Rd.blk (i := 1) rfl rfl)) ?_
  refine Wk.p (fdl fd_api_Ins_2) ?_
  refine Wk.p (ld (v := .int .i64 i.a) one_int (Rd.blk (i := 0) rfl rfl)) ?_
  refine Wk.p (lkn mt_run_vars (i := 2) rfl hok.all (hok.getD i.a)) ?_
  refine Wk.p (fdl fd_api_Ins_4) ?_
  refine Wk.p (ld (v := .int .i64 i.imm) one_int (Rd.blk (i := 0) rfl rfl)) ?_
  refine Wk.p (arw (.inl rfl)) ?_
  refine Wk.nil ?_
  refine Ol.p asi ?_
  refine Ol.nil ?_
  have ht := memAt_test (s := s) (a := s.get i.a + i.imm) hm
  refine Cd.seq ?_
  refine Cd.seq ?_
  refine Cd.region ?_
  refine Ol.p mvi ?_
  refine Ol.p (cvw in_int in_uint) ?_
  refine Ol.p mvp ?_
  refine Ol.p nlc ?_
  refine Ol.p (fdl fd_run_Run_4) ?_
  refine Ol.p (ld (v := .slice y.mA s.mem.length y.mC) one_L_int (Rd.blk (i := 1) rfl rfl)) ?_
  refine Ol.p (lens sl_L_int) ?_
  refine Ol.p (cvw in_int in_uint) ?_
  refine Ol.p gei ?_
  refine Ol.nil ?_
  refine Cd.cond rfl (fun h => ?_) (fun h => ?_)
  · have hn : memAt s (wI (s.get i.a + i.imm)) = none := by
      rw [← Option.isNone_iff_eq_none, ← ht]; exact h
    refine Cd.seq ?_
    refine Cd.region ?_
    refine Ol.p asp ?_
    refine Ol.p asb ?_
    refine Ol.nil ?_
    exact Cd.ret ⟨.tuple #[.pointer none, .bool false], ret2 rfl rfl rfl, _, .sub (.cons _ (List.Sublist.refl _)), by unfold wordV; rw [hn], rfl⟩
  obtain ⟨n, hn⟩ : ∃ n, memAt s (wI (s.get i.a + i.imm)) = some n := by
    rw [← Option.isSome_iff_exists, ← Option.not_isNone, ← ht]
    have : decide (IntKind.u64.wrap ((s.mem.length : Nat) : Int) ≤ IntKind.u64.wrap (wI (s.get i.a + i.imm))) = false := h
    rw [this]; rfl
  have hnr : wI (s.get i.a + i.imm) = (n : Int) ∧ n < s.mem.length := by
    unfold memAt at hn
    split at hn
    · have := Option.some.inj hn; omega
    · cases hn
  refine Cd.skip ?_
  refine Cd.seq ?_
  refine Cd.region ?_
  refine Ol.p mvp ?_
  refine Ol.p nlc ?_
  refine Ol.p (fdl fd_run_Run_4) ?_
  refine Ol.p (ld (v := .slice y.mA s.mem.length y.mC) one_L_int (Rd.blk (i := 1) rfl rfl)) ?_
  refine Ol.p mvi ?_
  refine Ol.p (ixn1 (ix := n) sl_L_int (Som.row (i := 3) rfl (by omega)) (hy := congrArg (Value.int .i64) hnr.1) (h := hnr.2)) ?_
  refine Ol.p asp ?_
  refine Ol.p asb ?_
  refine Ol.nil ?_
  exact Cd.ret ⟨.tuple #[.pointer (some (ap y.mA n)), .bool true], ret2 rfl rfl rfl, _, .sub (.cons _ (List.Sublist.refl _)), by unfold wordV; rw [hn], rfl⟩
end
section
/-- What a method leaves. -/
def RunTo (w0 : World) (B : Nat) (y : RLay) (s' : RSt) (u : Value) : Value → List Res → Prop := fun v L => v = u ∧ ∃ y', y'.gR = y.gR ∧ y'.g = y.g ∧ RunOk w0 B y' s' ∧ L = runL y' s'
theorem drop1 {w0 : World} {B : Nat} {L : List Res} {A : Option Addr} {c n : Nat} {xs : List Value} (h : RdS w0 B L 1 A (n + 1) xs) (hc : n + 1 ≤ c) : RdS w0 B L 1 (if c = 1 then A else A.map (·.add (1 * 1))) n (xs.drop (1 * 1)) := fun M w hh => by
  have := Reads.cut (k := 1) (h M w hh) (by omega) hc
  exact this
set_option maxHeartbeats 4000000 in
theorem run_call_cm {w0 : World} {B : Nat} {y : RLay} {s : RSt} {i : RIns} (hok : RunOk w0 B y s) (ha : RdS w0 B (runL y s) 1 i.aA i.args.length (ints i.args)) (hal : i.args.length < 2 ^ 44) (hcl : s.calls.length < 2 ^ 40) :
    Cm Tryz.prog 100 #[.pointer (some ⟨y.gR, 0, none⟩), i.val] w0 B (runL y s) (RunTo w0 B y (callF s i).1 (.tuple #[.int .i64 (callF s i).2.1, .bool (callF s i).2.2])) := by
  refine Cm.mk Tryz.func100 rfl rfl fun M => ?_
  refine Cd.seq ?_
  refine Cd.region ?_
  refine Ol.x bxg ?_
  rintro _ _ ⟨g3, rfl, rfl⟩
  refine Ol.p asi ?_
  refine Ol.p asb ?_
  refine Ol.nil ?_
  obtain ⟨as_, has⟩ : ∃ as_, as_ = i.args.map s.get := ⟨_, rfl⟩
  have hasl : as_.length = i.args.length := by rw [has]; simp
  have hcl2 : s.calls.length = y.recs.length := by rw [hok.calls]; simp
  have hk : Keep (callRow y s :: ([blk g3 (.cells i.cells.toArray 25), blk y.gR (.cells (runCells y s) 93), blk y.gM (.map y.es y.cl), memRow y s, y.a0] ++ runT y)) (runL y s) :=
    keep_count [blk g3 (.cells i.cells.toArray 25)] fun _ x => by
      simp only [runL, List.count_append, List.count_cons, List.count_nil, List.cons_append, List.nil_append]; omega
  refine Cd.seq ?_
  refine Cd.drawT (L0 := ([blk g3 (.cells i.cells.toArray 25), blk y.gR (.cells (runCells y s) 93), blk y.gM (.map y.es y.cl), memRow y s, y.a0] ++ runT y)) mixed 17 (fun opNo => match opNo with | 13 => some (fun v T => ∃ T0, T = T0 ++ [callRow y s] ∧ NewL 3 1 as_.length (ints as_) v T0) | 15 => some (fun v T => ∃ g A c, v = .slice (some ⟨g, 0, none⟩) 1 1 ∧ T = [row (.slice (some ⟨g, 0, none⟩) 1 1) 106 2 1 (CRec.cells ⟨i.callee, A, c, as_⟩), callRes ⟨i.callee, A, c, as_⟩, callRow y s]) | 16 => some (fun v T => ∃ Ac cc g A c, v = .slice Ac (s.calls.length + 1) cc ∧ T = [row (.slice (some ⟨g, 0, none⟩) 1 1) 106 2 1 (CRec.cells ⟨i.callee, A, c, as_⟩), callRes ⟨i.callee, A, c, as_⟩, row (.slice Ac (s.calls.length + 1) cc) 106 2 (s.calls.length + 1) (y.recs.flatMap CRec.cells ++ CRec.cells ⟨i.callee, A, c, as_⟩)]) | 1000 => some ((fun v R => v = undef ∧ R = [callRow y s])) | _ => none) (fun opNo => match opNo with | 13 => [1000] | 15 => [13] | 16 => [15] | _ => []) (fun opNo => match opNo with | 13 => some 1000 | 15 => some 13 | 16 => some 15 | _ => none) [1000] (fun tokNo => match tokNo with | 1000 => [callRow y s] | _ => []) (by kernel_rfl) (perm_count fun _ x => by simp only [runL, List.flatMap_cons, List.flatMap_nil, List.count_append, List.count_cons, List.count_nil, List.cons_append, List.nil_append]; omega) (by intro c hc; simp only [List.mem_cons, List.not_mem_nil, or_false] at hc; rcases hc with rfl <;> rfl) (by intro q V h; split at h <;> cases h; exact ⟨_, _, _, rfl, none, 0, rfl, rfl⟩; exact ⟨_, _, 0, none, 0, rfl, rfl⟩; exact ⟨_, _, none, 0, 0, none, 0, rfl, rfl⟩; exact ⟨_, _, rfl, rfl⟩) (fun u hu hu0 => ?_)
  refine WkT.p mvp ?_
  refine WkT.p mvp ?_
  refine WkT.p nlc ?_
  refine WkT.p (fdl fd_run_Run_6) ?_
  refine WkT.p (ld (v := .slice y.cA s.calls.length y.cC) one_L_api_Call (Rd.blk (i := 1) rfl rfl)) ?_
  refine WkT.p (fdl fd_api_Ins_5) ?_
  refine WkT.p (ld (v := .int .i64 i.callee) one_int (Rd.blk (i := 0) rfl rfl)) ?_
  refine WkT.p mvp ?_
  refine WkT.p nlc ?_
  refine WkT.p (fdl fd_run_Run_0) ?_
  refine WkT.p (ld (v := .map (some y.gM)) one_run_vars (Rd.blk (i := 1) rfl rfl)) ?_
  refine WkT.p (fdl fd_api_Ins_6) ?_
  refine WkT.p (ld (v := .slice i.aA i.args.length i.aC) one_L_int (Rd.blk (i := 0) rfl rfl)) ?_
  refine WkT.xn (V := fun v T => ∃ T0, T = T0 ++ [callRow y s] ∧ NewL 3 1 as_.length (ints as_) v T0) (l := [1000]) (l2 := []) hu rfl rfl rfl (by rw [needs_cons (hu0 1000 (by simp)), needs_none]; exact (Adds.more (sp_call (vs := [.map (some y.gM), .slice i.aA i.args.length i.aC]) (R := NewL 3 1 as_.length (ints as_)) en_run_vars_all (fun M w' hh => by rw [has]; exact run_vars_all_ct (c := i.aC) (hh.fit_ (i := 3) rfl _ rfl).2 (hh.at_ (i := 3) rfl) hok.all hok.getD ((ha.keep hk) M w' hh) hal)))) ?_
  rintro _ _ hu13 ⟨_, rfl, A20, c20, rfl, rfl⟩
  refine WkT.p (bds (cs := (CRec.cells ⟨i.callee, A20, c20, as_⟩).toArray) bs_api_Call zr_api_Call (hf := by kernel_rfl)) ?_
  refine WkT.xn (V := fun v T => ∃ g A c, v = .slice (some ⟨g, 0, none⟩) 1 1 ∧ T = [row (.slice (some ⟨g, 0, none⟩) 1 1) 106 2 1 (CRec.cells ⟨i.callee, A, c, as_⟩), callRes ⟨i.callee, A, c, as_⟩, callRow y s]) (l := [13]) (l2 := []) hu rfl rfl rfl (by rw [needs_cons hu13, needs_none]; exact (fun M w hh => Goes.mono (bs1 (v := .agg (CRec.cells ⟨i.callee, A20, c20, as_⟩).toArray) (cs := CRec.cells ⟨i.callee, A20, c20, as_⟩) sl_L_api_Call zr_api_Call rfl rfl (by decide) rfl M w hh) fun v w' ⟨L', h1, g, h2, h3⟩ => ⟨L', h1, _, by rw [h3, h2]; rfl, g, A20, c20, h2, rfl⟩)) ?_
  rintro _ _ hu15 ⟨g22, A2, c2, rfl, rfl⟩
  refine WkT.xn (V := fun v T => ∃ Ac cc g A c, v = .slice Ac (s.calls.length + 1) cc ∧ T = [row (.slice (some ⟨g, 0, none⟩) 1 1) 106 2 1 (CRec.cells ⟨i.callee, A, c, as_⟩), callRes ⟨i.callee, A, c, as_⟩, row (.slice Ac (s.calls.length + 1) cc) 106 2 (s.calls.length + 1) (y.recs.flatMap CRec.cells ++ CRec.cells ⟨i.callee, A, c, as_⟩)]) (l := [15]) (l2 := []) hu rfl rfl rfl (by rw [needs_cons hu15, needs_none]; exact (fun M w hh => Goes.mono (apn (i := 2) (m := 1) sl_L_api_Call zr_api_Call rfl (by decide) rfl (Src.row (i := 0) rfl rfl) (CRec.one _) (by unfold maxLen; omega) (by omega) rfl rfl M w hh) fun v w' ⟨L', h1, Ac, cc, h2, h3⟩ => ⟨L', h1, _, by rw [h3]; rfl, Ac, cc, g22, A2, c2, h2, rfl⟩)) ?_
  rintro _ _ hu16 ⟨Ac, cc, g22b, A3, c3, rfl, rfl⟩
  refine WkT.nil ?_
  change Ol _ _ _ _ _ (needs u [16] _)
  rw [needs_cons hu16, needs_none]
  refine Ol.p nlc ?_
  refine Ol.p (fdl fd_run_Run_6) ?_
  refine Ol.s (sto (v := .slice Ac (s.calls.length + 1) cc) (i := 4) (k := 0 + 9) (.inr sz_L_api_Call) rfl rfl rfl (by simp [runCells]) rfl) ?_
  refine Ol.nil ?_
  obtain ⟨rc, hrc⟩ : ∃ rc : CRec, rc = ⟨i.callee, A3, c3, as_⟩ := ⟨_, rfl⟩
  obtain ⟨y1, hy1⟩ : ∃ y1 : RLay, y1 = { y with cA := Ac, cC := cc, recs := y.recs ++ [rc] } := ⟨_, rfl⟩
  have hok1 : RunOk w0 B y1 (callS s i) := by
    rw [hy1]
    exact ⟨hok.all, hok.get, by show s.calls ++ _ = _; rw [hok.calls, hrc, has]; simp, hok.ans, hok.acap⟩
  have hcl3 : (callS s i).calls.length = s.calls.length + 1 := by simp [callS]
  have e1 : runCells y1 (callS s i) = #[.map (some y.gM), .int .i64 s.b, .int .i64 s.i, .int .i64 s.e, .int .i64 s.v, .slice y.g.pA y.g.params.length y.g.pC, .slice y.g.bA y.g.blocks.length y.g.bC, .slice y.mA s.mem.length y.mC, .slice y.aA s.ans.length y.aC, .slice Ac (s.calls.length + 1) cc, .int .i64 s.steps] := by
    rw [hy1]; unfold runCells; rw [hcl3]; rfl
  have e2 : callRow y1 (callS s i) = row (.slice Ac (s.calls.length + 1) cc) 106 2 (s.calls.length + 1) (y.recs.flatMap CRec.cells ++ CRec.cells rc) := by
    rw [hy1]; unfold callRow; rw [hcl3]; simp
  have e3 : memRow y1 (callS s i) = memRow y s := by rw [hy1]; rfl
  have e4 : runT y1 = (y.recs.map callRes ++ [callRes rc]) ++ funRes y.g := by rw [hy1]; unfold runT; simp
  refine Cd.keep (L' := blk g3 (.cells i.cells.toArray 25) :: runL y1 (callS s i)) (keep_count [row (.slice (some ⟨g22b, 0, none⟩) 1 1) 106 2 1 (CRec.cells ⟨i.callee, A3, c3, as_⟩)] fun _ x => by
    unfold runL
    rw [e1, e2, e3, e4, hrc, show y1.gR = y.gR by rw [hy1], show y1.gM = y.gM by rw [hy1], show y1.es = y.es by rw [hy1], show y1.cl = y.cl by rw [hy1], show y1.a0 = y.a0 by rw [hy1]]
    unfold runT
    simp only [List.set_cons_succ, List.set_cons_zero, List.count_append, List.count_cons, List.count_nil, List.cons_append, List.nil_append]
    have e5 : (runCells y s).setIfInBounds (0 + 9) (.slice Ac (s.calls.length + 1) cc) = #[.map (some y.gM), .int .i64 s.b, .int .i64 s.i, .int .i64 s.e, .int .i64 s.v, .slice y.g.pA y.g.params.length y.g.pC, .slice y.g.bA y.g.blocks.length y.g.bC, .slice y.mA s.mem.length y.mC, .slice y.aA s.ans.length y.aC, .slice Ac (s.calls.length + 1) cc, .int .i64 s.steps] := rfl
    rw [e5]
    omega) ?_
  clear e1 e2 e3 e4 hu13 hu15 hu16
  subst hy1
  refine Cd.seq ?_
  refine Cd.seq ?_
  refine Cd.region ?_
  refine Ol.p mvp ?_
  refine Ol.p nlc ?_
  refine Ol.p (fdl fd_run_Run_5) ?_
  refine Ol.p (ld (v := .slice y.aA s.ans.length y.aC) one_L_int (Rd.blk (i := 1) rfl rfl)) ?_
  refine Ol.p (lens sl_L_int) ?_
  refine Ol.p eqi ?_
  refine Ol.nil ?_
  refine Cd.cond rfl (fun h => ?_) (fun h => ?_)
  · have he : s.ans = [] := by
      have h0 : ((s.ans.length : Nat) : Int) = 0 := by simpa using h
      exact List.length_eq_zero_iff.1 (by omega)
    have hcf : callF s i = (callS s i, 0, false) := by unfold callF; rw [he]
    refine Cd.seq ?_
    refine Cd.region ?_
    refine Ol.p asi ?_
    refine Ol.p asb ?_
    refine Ol.nil ?_
    exact Cd.ret ⟨.tuple #[.int .i64 0, .bool false], ret2 rfl rfl rfl, _, .sub (.cons _ (List.Sublist.refl _)), by rw [hcf]; exact ⟨rfl, { y with cA := Ac, cC := cc, recs := y.recs ++ [rc] }, rfl, rfl, hok1, rfl⟩⟩
  obtain ⟨n, r, he⟩ : ∃ n r, s.ans = n :: r := by
    cases hr : s.ans with
    | nil => rw [hr] at h; simp at h
    | cons n r => exact ⟨n, r, rfl⟩
  have hel : s.ans.length = r.length + 1 := by rw [he]; rfl
  have hcf : callF s i = ({ callS s i with ans := r }, n, true) := by unfold callF; rw [he]
  have hac := hok.acap
  have hans : RdS w0 B [y.a0] 1 y.aA s.ans.length (ints s.ans) := hok.ans
  refine Cd.skip ?_
  refine Cd.seq ?_
  refine Cd.region ?_
  refine Ol.p mvp ?_
  refine Ol.p nlc ?_
  refine Ol.p (fdl fd_run_Run_5) ?_
  refine Ol.p (ld (v := .slice y.aA s.ans.length y.aC) one_L_int (Rd.blk (i := 1) rfl rfl)) ?_
  refine Ol.p (ixn1 (ix := 0) sl_L_int (Som.rds (hans.keep (.sub (.cons _ (.cons _ (.cons _ (.cons _ (.cons_cons _ (List.nil_sublist _)))))))) (by omega)) (h := by omega)) ?_
  refine Ol.p (ld (v := .int .i64 n) one_int (Rd.rds (hans.keep (.sub (.cons _ (.cons _ (.cons _ (.cons _ (.cons_cons _ (List.nil_sublist _)))))))) (k := 0) (by rw [he]; rfl))) ?_
  refine Ol.p asi ?_
  refine Ol.nil ?_
  refine Cd.seq ?_
  refine Cd.region ?_
  refine Ol.p mvp ?_
  refine Ol.p mvp ?_
  refine Ol.p nlc ?_
  refine Ol.p (fdl fd_run_Run_5) ?_
  refine Ol.p (ld (v := .slice y.aA s.ans.length y.aC) one_L_int (Rd.blk (i := 1) rfl rfl)) ?_
  refine Ol.p (sll (l := 1) (n := s.ans.length) (c := y.aC) (A := y.aA) sl_L_int (by omega)) ?_
  refine Ol.p nlc ?_
  refine Ol.p (fdl fd_run_Run_5) ?_
  refine Ol.s (sto (v := .slice (if y.aC = 1 then y.aA else y.aA.map (·.add (1 * 1))) (s.ans.length - 1) (y.aC - 1)) (i := 1) (k := 0 + 8) (.inr sz_L_int) rfl rfl rfl (by simp [runCells]) rfl) ?_
  refine Ol.nil ?_
  have hok2 : RunOk w0 B { y with cA := Ac, cC := cc, recs := y.recs ++ [rc], aA := (if y.aC = 1 then y.aA else y.aA.map (·.add (1 * 1))), aC := y.aC - 1 } { callS s i with ans := r } := by
    refine ⟨hok.all, hok.get, hok1.calls, ?_, by show r.length ≤ y.aC - 1; omega⟩
    have := drop1 (n := r.length) (c := y.aC) (hel ▸ hans) (by omega)
    rw [he] at this
    exact this
  have e6 : (runCells { y with cA := Ac, cC := cc, recs := y.recs ++ [rc] } (callS s i)).setIfInBounds (0 + 8) (.slice (if y.aC = 1 then y.aA else y.aA.map (·.add (1 * 1))) (s.ans.length - 1) (y.aC - 1)) = runCells { y with cA := Ac, cC := cc, recs := y.recs ++ [rc], aA := (if y.aC = 1 then y.aA else y.aA.map (·.add (1 * 1))), aC := y.aC - 1 } { callS s i with ans := r } := by
    rw [hel]; rfl
  refine Cd.seq ?_
  refine Cd.region ?_
  refine Ol.p mvi ?_
  refine Ol.p asi ?_
  refine Ol.p asb ?_
  refine Ol.nil ?_
  exact Cd.ret ⟨.tuple #[.int .i64 n, .bool true], ret2 rfl rfl rfl, _, .sub (.cons _ (List.Sublist.refl _)), by rw [hcf]; exact ⟨rfl, { y with cA := Ac, cC := cc, recs := y.recs ++ [rc], aA := (if y.aC = 1 then y.aA else y.aA.map (·.add (1 * 1))), aC := y.aC - 1 }, rfl, rfl, hok2, congrArg (fun z => blk y.gR (.cells z 93) :: _) e6⟩⟩
end
end Go.Proofs.YtjenaenakopicaaGreat

/- The package run: what an instruction and an end come to, walked. -/
namespace Go.Proofs.YtjenaenakopicaaGreat
set_option linter.unusedVariables false
open Go Go.RowKit
set_option maxRecDepth 100000

section
theorem RunOk.mem {w0 : World} {B : Nat} {y : RLay} {s : RSt} (h : RunOk w0 B y s) (m : List Int) : RunOk w0 B y { s with mem := m } := ⟨h.all, h.get, h.calls, h.ans, h.acap⟩
theorem RunOk.upd {w0 : World} {B : Nat} {y : RLay} {s : RSt} {es : Array MapEntry} {cl : Nat} {k v : Int} (h : RunOk w0 B y s) (ha : AllI es.toList) (hu : ∀ m, mget es.toList m = if m = k then some (.int .i64 v) else mget y.es.toList m) : RunOk w0 B { y with es := es, cl := cl } { s with vars := updI s.vars k v } := by
  refine ⟨ha, fun m => ?_, h.calls, h.ans, h.acap⟩
  rw [hu]
  by_cases hm : m = k
  · simp [updI, hm]
  · simp [updI, hm, h.get]
theorem ints_set (l : List Int) (n : Nat) (v : Int) : (ints l).set n (.int .i64 v) = ints (l.set n v) := by unfold ints; rw [List.map_set]
theorem spot_fit (n : Nat) (h : n < 2 ^ 60) : IntKind.i64.wrap ((n : Int) + 1) = (n : Int) + 1 := by
  have e : IntKind.i64.wrap ((n : Int) + 1) = if ((n : Int) + 1) % 18446744073709551616 ≥ 9223372036854775808 then ((n : Int) + 1) % 18446744073709551616 - 18446744073709551616 else ((n : Int) + 1) % 18446744073709551616 := by
    simp [IntKind.wrap, IntKind.bits, IntKind.signed]
  rw [e]
  split <;> omega
set_option maxHeartbeats 4000000 in
theorem run_ins_cm {w0 : World} {B : Nat} {y : RLay} {s : RSt} {i : RIns} (hok : RunOk w0 B y s) (ha : RdS w0 B (runL y s) 1 i.aA i.args.length (ints i.args)) (hal : i.args.length < 2 ^ 44) (hcl : s.calls.length < 2 ^ 40) (hm : s.mem.length < 2 ^ 60) (hi : s.i < 2 ^ 60) :
    Cm Tryz.prog 62 #[.pointer (some ⟨y.gR, 0, none⟩), i.val] w0 B (runL y s) (RunTo w0 B y (insF s i).1 (insF s i).2.val) := by
  refine Cm.mk Tryz.func62 rfl rfl fun M => ?_
  refine Cd.seq ?_
  refine Cd.region ?_
  refine Ol.x bxg ?_
  rintro _ _ ⟨g3, rfl, rfl⟩
  refine Ol.p (as_ rfl) ?_
  refine Ol.nil ?_
  refine Cd.seq ?_
  refine Cd.region ?_
  refine Ol.p asb ?_
  refine Ol.nil ?_
  refine Cd.seq ?_
  refine Cd.region ?_
  refine Ol.p (fdl fd_api_Ins_4) ?_
  refine Ol.p (ld one_int (Rd.blk (i := 0) rfl rfl)) ?_
  refine Ol.p asi ?_
  refine Ol.nil ?_
  refine Cd.mid (fun σ' L' => ∃ y', y'.gR = y.gR ∧ y'.g = y.g ∧ RunOk w0 B y' (insV s i).1 ∧ Has σ' [(0, .pointer (some ⟨y.gR, 0, none⟩)), (3, .pointer (some ⟨g3, 0, none⟩)), (5, .bool (insV s i).2.2), (6, .int .i64 (insV s i).2.1)] ∧ blk g3 (.cells i.cells.toArray 25) :: runL y' (insV s i).1 = L') ?_ ?_
  · refine Cd.seq ?_
    refine Cd.region ?_
    refine Ol.p (fdl fd_api_Ins_0) ?_
    refine Ol.p (ld one_api_Op (Rd.blk (i := 0) rfl rfl)) ?_
    refine Ol.nil ?_
    refine Cd.block ?_   -- 0
    refine Cd.seq ?_
    refine Cd.region ?_
    refine Ol.p eqi ?_
    refine Ol.p asb ?_
    refine Ol.nil ?_
    refine Cd.cond rfl (fun h => ?_) (fun h => ?_)   -- $32
    · have hv : insV s i = (s, i.imm, true) := by unfold insV; rw [if_pos (of_decide_eq_true h)]
      rw [hv]
      refine Cd.skip ?_
      exact ⟨y, rfl, rfl, hok, ⟨rfl, rfl, rfl, rfl, trivial⟩, rfl⟩
    have h1 : ¬ i.op = 1 := of_decide_eq_false h
    refine Cd.seq ?_
    refine Cd.region ?_
    refine Ol.p eqi ?_
    refine Ol.p asb ?_
    refine Ol.nil ?_
    refine Cd.cond rfl (fun h => ?_) (fun h => ?_)   -- $34
    · have hv : insV s i = (s, s.get i.a, true) := by unfold insV; rw [if_neg h1, if_pos (of_decide_eq_true h)]
      rw [hv]
      refine Cd.draw mixed 7 (fun _ => none) (fun _ => []) (by kernel_rfl) (fun _ _ h => by cases h) (fun u hu => ?_)
      refine Wk.p mvp ?_
      refine Wk.p nlc ?_
      refine Wk.p (fdl fd_run_Run_0) ?_
      refine Wk.p (ld (v := .map (some y.gM)) one_run_vars (Rd.blk (i := 1) rfl rfl)) ?_
      refine Wk.p (fdl fd_api_Ins_2) ?_
      refine Wk.p (ld (v := .int .i64 i.a) one_int (Rd.blk (i := 0) rfl rfl)) ?_
      refine Wk.p (lkn mt_run_vars (i := 2) rfl hok.all (hok.getD i.a)) ?_
      refine Wk.nil ?_
      refine Ol.p asi ?_
      refine Ol.nil ?_
      exact ⟨y, rfl, rfl, hok, ⟨rfl, rfl, rfl, rfl, trivial⟩, rfl⟩
    have h2 : ¬ i.op = 14 := of_decide_eq_false h
    refine Cd.seq ?_
    refine Cd.region ?_
    refine Ol.p eqi ?_
    refine Ol.p asb ?_
    refine Ol.nil ?_
    refine Cd.cond rfl (fun h => ?_) (fun h => ?_)   -- $43
    · have hv : insV s i = callF s i := by unfold insV; rw [if_neg h1, if_neg h2, if_pos (of_decide_eq_true h)]
      rw [hv]
      refine Cd.region ?_
      refine Ol.p mvp ?_
      refine Ol.p (ldw (cs := i.cells.toArray) ag_api_Ins (i := 0) rfl rfl) ?_
      refine Ol.x (sp_callm (vs := [.pointer (some ⟨y.gR, 0, none⟩), i.val]) (Lin := runL y s) (L2 := [blk g3 (.cells i.cells.toArray 25)]) (R := RunTo w0 B y (callF s i).1 (.tuple #[.int .i64 (callF s i).2.1, .bool (callF s i).2.2])) en_P_run_Run_call (List.perm_append_comm (l₁ := [_])) (run_call_cm hok ha hal hcl)) ?_
      rintro _ _ ⟨_, rfl, rfl, y', hg1, hg2, hok', rfl⟩
      refine Ol.keep Keep.comm ?_
      refine Ol.p mvt ?_
      refine Ol.p extv ?_
      refine Ol.p extv ?_
      refine Ol.p asi ?_
      refine Ol.p asb ?_
      refine Ol.nil ?_
      exact ⟨y', hg1, hg2, hok', ⟨rfl, rfl, rfl, rfl, trivial⟩, rfl⟩
    have h3 : ¬ i.op = 13 := of_decide_eq_false h
    have hv0 : insV s i = if i.op = 11 ∨ i.op = 12 then memF s i else (s, (calcF i.op (s.get i.a) (s.get i.b)).1, (calcF i.op (s.get i.a) (s.get i.b)).2) := by unfold insV; rw [if_neg h1, if_neg h2, if_neg h3]
    refine Cd.mid (fun σ' L' => Has σ' [(0, .pointer (some ⟨y.gR, 0, none⟩)), (3, .pointer (some ⟨g3, 0, none⟩)), (6, .int .i64 i.imm), (51, .bool (decide (i.op = 11 ∨ i.op = 12)))] ∧ blk g3 (.cells i.cells.toArray 25) :: runL y s = L') ?_ ?_
    · refine Cd.seq ?_
      refine Cd.region ?_
      refine Ol.p eqi ?_
      refine Ol.p asb ?_
      refine Ol.nil ?_
      refine Cd.cond rfl (fun h => ?_) (fun h => ?_)   -- $51
      · have h4 : i.op = 11 := of_decide_eq_true h
        have h5 : decide (i.op = 11) = decide (i.op = 11 ∨ i.op = 12) := by simp [h4]
        refine Cd.skip ?_
        exact ⟨⟨rfl, rfl, rfl, congrArg Value.bool h5, trivial⟩, rfl⟩
      have h4 : ¬ i.op = 11 := of_decide_eq_false h
      refine Cd.region ?_
      refine Ol.p eqi ?_
      refine Ol.p asb ?_
      refine Ol.nil ?_
      have h5 : decide (i.op = 12) = decide (i.op = 11 ∨ i.op = 12) := by simp [h4]
      exact ⟨⟨rfl, rfl, rfl, congrArg Value.bool h5, trivial⟩, rfl⟩
    rintro σ' _ ⟨hs', rfl⟩
    refine Cd.has hs' ?_
    refine Cd.cond rfl (fun h => ?_) (fun h => ?_)   -- $51
    · have h5 : i.op = 11 ∨ i.op = 12 := of_decide_eq_true h
      rw [if_pos h5] at hv0
      rw [hv0]
      refine Cd.seq ?_
      refine Cd.region ?_
      refine Ol.p asp ?_
      refine Ol.nil ?_
      refine Cd.seq ?_
      refine Cd.seq ?_
      refine Cd.region ?_
      refine Ol.p mvp ?_
      refine Ol.p (ldw (cs := i.cells.toArray) ag_api_Ins (i := 0) rfl rfl) ?_
      refine Ol.x (sp_callm (vs := [.pointer (some ⟨y.gR, 0, none⟩), i.val]) (Lin := runL y s) (L2 := [blk g3 (.cells i.cells.toArray 25)]) (R := fun v L => v = wordV y s i ∧ L = runL y s) en_P_run_Run_word (List.perm_append_comm (l₁ := [_])) (run_word_cm hok hm)) ?_
      rintro _ _ ⟨_, rfl, rfl, rfl⟩
      refine Ol.keep Keep.comm ?_
      cases hma : memAt s (wI (s.get i.a + i.imm)) with
      | none =>
        have hv : memF s i = (s, i.imm, false) := by unfold memF; rw [hma]
        have hw : wordV y s i = .tuple #[.pointer none, .bool false] := by unfold wordV; rw [hma]
        rw [hw, hv]
        refine Ol.p mvt ?_
        refine Ol.p extv ?_
        refine Ol.p extv ?_
        refine Ol.p asp ?_
        refine Ol.p asb ?_
        refine Ol.nil ?_
        refine Cd.seq ?_
        refine Cd.region ?_
        refine Ol.p mvb ?_
        refine Ol.p noti ?_
        refine Ol.nil ?_
        refine Cd.cond rfl (fun h => ?_) (fun h => nomatch h)
        refine Cd.exit (id := 0) ?_
        exact ⟨y, rfl, rfl, hok, ⟨rfl, rfl, rfl, rfl, trivial⟩, rfl⟩
      | some n =>
        have hw : wordV y s i = .tuple #[.pointer (some (ap y.mA n)), .bool true] := by unfold wordV; rw [hma]
        have hv0 : memF s i = if i.op = 12 then ({ s with mem := s.mem.set n (s.get i.b) }, s.get i.b, true) else (s, s.mem.getD n 0, true) := by unfold memF; rw [hma]
        have hn : n < s.mem.length := by
          unfold memAt at hma
          split at hma
          · have := Option.some.inj hma; omega
          · cases hma
        rw [hw]
        refine Ol.p mvt ?_
        refine Ol.p extv ?_
        refine Ol.p extv ?_
        refine Ol.p asp ?_
        refine Ol.p asb ?_
        refine Ol.nil ?_
        refine Cd.seq ?_
        refine Cd.region ?_
        refine Ol.p mvb ?_
        refine Ol.p noti ?_
        refine Ol.nil ?_
        refine Cd.cond rfl (fun h => nomatch h) (fun h => ?_)
        refine Cd.skip ?_
        refine Cd.mid (fun σ' L' => ∃ m2 : List Int, m2.length = s.mem.length ∧ memF s i = ({ s with mem := m2 }, m2.getD n 0, true) ∧ Has σ' [(0, .pointer (some ⟨y.gR, 0, none⟩)), (3, .pointer (some ⟨g3, 0, none⟩)), (5, .bool true), (7, .pointer (some (ap y.mA n)))] ∧ blk g3 (.cells i.cells.toArray 25) :: runL y { s with mem := m2 } = L') ?_ ?_
        · refine Cd.seq ?_
          refine Cd.region ?_
          refine Ol.p (fdl fd_api_Ins_0) ?_
          refine Ol.p (ld one_api_Op (Rd.blk (i := 0) rfl rfl)) ?_
          refine Ol.p eqi ?_
          refine Ol.nil ?_
          refine Cd.cond rfl (fun h => ?_) (fun h => ?_)
          · rw [if_pos (of_decide_eq_true h)] at hv0
            refine Cd.draw mixed 8 (fun _ => none) (fun _ => []) (by kernel_rfl) (fun _ _ h => by cases h) (fun u hu => ?_)
            refine Wk.p mvp ?_
            refine Wk.p mvp ?_
            refine Wk.p nlc ?_
            refine Wk.p (fdl fd_run_Run_0) ?_
            refine Wk.p (ld (v := .map (some y.gM)) one_run_vars (Rd.blk (i := 1) rfl rfl)) ?_
            refine Wk.p (fdl fd_api_Ins_3) ?_
            refine Wk.p (ld one_int (Rd.blk (i := 0) rfl rfl)) ?_
            refine Wk.p (lkn mt_run_vars (i := 2) rfl hok.all (hok.getD i.b)) ?_
            refine Wk.nil ?_
            refine Ol.p nlc ?_
            refine Ol.s (str (v := .int .i64 (s.get i.b)) (i := 3) (k := n) (A := y.mA) (xs := ints s.mem) sz_int rfl rfl rfl (by simpa [ints] using hn) rfl) ?_
            refine Ol.nil ?_
            refine ⟨s.mem.set n (s.get i.b), by simp, ?_, ⟨rfl, rfl, rfl, rfl, trivial⟩, ?_⟩
            · rw [hv0]
              simp [List.getD, hn]
            · have e : row (.slice y.mA s.mem.length y.mC) 3 1 s.mem.length ((ints s.mem).set n (.int .i64 (s.get i.b))) = memRow y { s with mem := s.mem.set n (s.get i.b) } := by
                unfold memRow
                rw [ints_set]
                simp only [List.length_set]
              have e2 : runCells y { s with mem := s.mem.set n (s.get i.b) } = runCells y s := by
                unfold runCells
                simp only [List.length_set]
              show _ :: blk y.gR (.cells (runCells y { s with mem := s.mem.set n (s.get i.b) }) 93) :: _ :: memRow y { s with mem := s.mem.set n (s.get i.b) } :: _ = _
              rw [e2, ← e]
              rfl
          rw [if_neg (of_decide_eq_false h)] at hv0
          refine Cd.skip ?_
          exact ⟨s.mem, rfl, hv0, ⟨rfl, rfl, rfl, rfl, trivial⟩, rfl⟩
        rintro σ' _ ⟨m2, hml, hv, hs', rfl⟩
        rw [hv]
        have hm2 : m2[n]? = some (m2.getD n 0) := by
          have hn2 : n < m2.length := by omega
          rw [List.getD_eq_getElem?_getD, List.getElem?_eq_getElem hn2]; rfl
        refine Cd.has hs' ?_
        refine Cd.region ?_
        refine Ol.p mvp ?_
        refine Ol.p nlc ?_
        refine Ol.p (ld (v := .int .i64 (m2.getD n 0)) one_int (Rd.row (i := 3) rfl (ints_at hm2))) ?_
        refine Ol.p asi ?_
        refine Ol.nil ?_
        exact ⟨y, rfl, rfl, hok.mem m2, ⟨rfl, rfl, rfl, rfl, trivial⟩, rfl⟩
    have h5 : ¬ (i.op = 11 ∨ i.op = 12) := of_decide_eq_false h
    rw [if_neg h5] at hv0
    rw [hv0]
    refine Cd.draw mixed 21 (exIs (fun opNo => match opNo with | 16 => some (calcV i.op (s.get i.a) (s.get i.b)) | _ => none)) (fun _ => []) (by kernel_rfl) exIs_in (fun u hu => ?_)
    refine Wk.p (fdl fd_api_Ins_0) ?_
    refine Wk.p (ld (v := .int .i64 i.op) one_api_Op (Rd.blk (i := 0) rfl rfl)) ?_
    refine Wk.p mvp ?_
    refine Wk.p nlc ?_
    refine Wk.p (fdl fd_run_Run_0) ?_
    refine Wk.p (ld (v := .map (some y.gM)) one_run_vars (Rd.blk (i := 1) rfl rfl)) ?_
    refine Wk.p (fdl fd_api_Ins_2) ?_
    refine Wk.p (ld one_int (Rd.blk (i := 0) rfl rfl)) ?_
    refine Wk.p (lkn mt_run_vars (i := 2) rfl hok.all (hok.getD i.a)) ?_
    refine Wk.p mvp ?_
    refine Wk.p nlc ?_
    refine Wk.p (fdl fd_run_Run_0) ?_
    refine Wk.p (ld (v := .map (some y.gM)) one_run_vars (Rd.blk (i := 1) rfl rfl)) ?_
    refine Wk.p (fdl fd_api_Ins_3) ?_
    refine Wk.p (ld one_int (Rd.blk (i := 0) rfl rfl)) ?_
    refine Wk.p (lkn mt_run_vars (i := 2) rfl hok.all (hok.getD i.b)) ?_
    refine Wk.dk hu (sp_call en_run_Calc (fun M w' hh => run_Calc_ct)) ?_
    refine Wk.p mvt ?_
    refine Wk.p extv ?_
    refine Wk.p extv ?_
    refine Wk.p asi ?_
    refine Wk.nil ?_
    rw [needs_exIs hu rfl]
    refine Ol.p asb ?_
    refine Ol.nil ?_
    exact ⟨y, rfl, rfl, hok, ⟨rfl, rfl, rfl, rfl, trivial⟩, rfl⟩
  rintro σ' _ ⟨y', hg1, hg2, hok', hs', rfl⟩
  rw [← hg1] at hs'
  refine Cd.has hs' ?_
  obtain ⟨s', hs1⟩ : ∃ q, q = (insV s i).1 := ⟨_, rfl⟩
  obtain ⟨v, hv1⟩ : ∃ q, q = (insV s i).2.1 := ⟨_, rfl⟩
  obtain ⟨c, hc1⟩ : ∃ q, q = (insV s i).2.2 := ⟨_, rfl⟩
  have hF : insF s i = if c = true then (insS s' i v, .spot s'.b (s'.i + 1)) else (s', .done 2 0) := by rw [hs1, hv1, hc1]; rfl
  rw [hF]
  clear hF hs'
  rw [← hs1] at hok'
  rw [← hs1, ← hv1, ← hc1]
  have hi' : s'.i < 2 ^ 60 := by
    have : s'.i = s.i := by
      rw [hs1]; unfold insV
      split
      · rfl
      split
      · rfl
      split
      · unfold callF; split <;> rfl
      split
      · unfold memF
        split
        · rfl
        split <;> rfl
      rfl
    omega
  clear hs1 hv1 hc1
  refine Cd.seq ?_
  refine Cd.seq ?_
  refine Cd.region ?_
  refine Ol.p mvb ?_
  refine Ol.p noti ?_
  refine Ol.nil ?_
  refine Cd.cond rfl (fun h => ?_) (fun h => ?_)
  · have hcf : c = false := by simpa using h
    subst hcf
    refine Cd.seq ?_
    refine Cd.region ?_
    refine Ol.x (sp_call en_run_trap (fun M w' hh => run_trap_ct)) ?_
    rintro _ _ ⟨_, rfl, rfl, rfl⟩
    refine Ol.p ase ?_
    refine Ol.nil ?_
    exact Cd.ret ⟨trapV, ret1 rfl rfl, _, .sub (.cons _ (List.Sublist.refl _)), rfl, y', hg1, hg2, hok', rfl⟩
  have hct : c = true := by simpa using h
  subst hct
  refine Cd.skip ?_
  refine Cd.mid (fun σ' L' => ∃ y2 : RLay, y2.gR = y'.gR ∧ y2.g = y'.g ∧ RunOk w0 B y2 (insS s' i v) ∧ Has σ' [(0, .pointer (some ⟨y'.gR, 0, none⟩))] ∧ blk g3 (.cells i.cells.toArray 25) :: runL y2 (insS s' i v) = L') ?_ ?_
  · refine Cd.seq ?_
    refine Cd.region ?_
    refine Ol.p (fdl fd_api_Ins_1) ?_
    refine Ol.p (ld one_int (Rd.blk (i := 0) rfl rfl)) ?_
    refine Ol.p gti ?_
    refine Ol.nil ?_
    refine Cd.cond rfl (fun h => ?_) (fun h => ?_)
    · have hS : insS s' i v = { s' with vars := updI s'.vars i.dst v } := by unfold insS; rw [if_pos (of_decide_eq_true h)]
      rw [hS]
      refine Cd.draw mixed 7 (fun _ => none) (fun _ => []) (by kernel_rfl) (fun _ _ h => by cases h) (fun u hu => ?_)
      refine Wk.p mvp ?_
      refine Wk.p nlc ?_
      refine Wk.p (fdl fd_run_Run_0) ?_
      refine Wk.p (ld (v := .map (some y'.gM)) one_run_vars (Rd.blk (i := 1) rfl rfl)) ?_
      refine Wk.p (fdl fd_api_Ins_1) ?_
      refine Wk.p (ld one_int (Rd.blk (i := 0) rfl rfl)) ?_
      refine Wk.p mvi ?_
      refine Wk.nil ?_
      refine Ol.x (upm (v := .int .i64 v) mt_run_vars (i := 2) rfl hok'.all rfl) ?_
      rintro _ _ ⟨es', cl', rfl, hall, hget⟩
      refine Ol.nil ?_
      exact ⟨{ y' with es := es', cl := cl' }, rfl, rfl, hok'.upd hall hget, ⟨rfl, trivial⟩, rfl⟩
    have hS : insS s' i v = s' := by unfold insS; rw [if_neg (of_decide_eq_false h)]
    rw [hS]
    refine Cd.skip ?_
    exact ⟨y', rfl, rfl, hok', ⟨rfl, trivial⟩, rfl⟩
  rintro σ' _ ⟨y2, hg3, hg4, hok2, hs2, rfl⟩
  rw [← hg3] at hs2
  refine Cd.has hs2 ?_
  obtain ⟨s2, hs3⟩ : ∃ s2, s2 = insS s' i v := ⟨_, rfl⟩
  have hb2 : s2.b = s'.b ∧ s2.i = s'.i := by
    rw [hs3]; unfold insS; split <;> exact ⟨rfl, rfl⟩
  show Cd _ _ _ _ _
  rw [if_pos rfl, ← hs3, ← hb2.1, ← hb2.2]
  rw [← hs3] at hok2
  refine Cd.seq ?_
  refine Cd.draw mixed 14 (fun _ => none) (fun _ => []) (by kernel_rfl) (fun _ _ h => by cases h) (fun u hu => ?_)
  refine Wk.p mvp ?_
  refine Wk.p nlc ?_
  refine Wk.p (fdl fd_run_Run_1) ?_
  refine Wk.p (fdl fd_run_spot_0) ?_
  refine Wk.p (ld (v := .int .i64 s2.b) one_int (Rd.blk (i := 1) rfl rfl)) ?_
  refine Wk.p mvp ?_
  refine Wk.p nlc ?_
  refine Wk.p (fdl fd_run_Run_1) ?_
  refine Wk.p (fdl fd_run_spot_1) ?_
  refine Wk.p (ld (v := .int .i64 s2.i) one_int (Rd.blk (i := 1) rfl rfl)) ?_
  refine Wk.p (arw (.inl rfl)) ?_
  refine Wk.p (bds (cs := #[.int .i64 s2.b, .int .i64 (wI ((s2.i : Int) + 1))]) bs_run_spot zr_run_spot (hf := by kernel_rfl)) ?_
  refine Wk.p (mki co_run_spot rfl) ?_
  refine Wk.p ase ?_
  refine Wk.nil ?_
  refine Ol.nil ?_
  refine Cd.ret ⟨_, ret1 rfl rfl, _, .sub (.cons _ (List.Sublist.refl _)), ?_, y2, hg3.trans hg1, hg4.trans hg2, hok2, rfl⟩
  have e : wI ((s2.i : Int) + 1) = (s2.i : Int) + 1 := spot_fit s2.i (by omega)
  rw [e]
  rfl
end
section
set_option maxHeartbeats 4000000 in
theorem run_term_cm {w0 : World} {B : Nat} {y : RLay} {s : RSt} {t : Tm} (hok : RunOk w0 B y s) :
    Cm Tryz.prog 63 #[.pointer (some ⟨y.gR, 0, none⟩), t.val] w0 B (runL y s) (RunTo w0 B y s (termF s t).val) := by
  refine Cm.mk Tryz.func63 rfl rfl fun M => ?_
  refine Cd.seq ?_
  refine Cd.region ?_
  refine Ol.x bxg ?_
  rintro _ _ ⟨g3, rfl, rfl⟩
  refine Ol.p (as_ rfl) ?_
  refine Ol.nil ?_
  refine Cd.seq ?_
  refine Cd.seq ?_
  refine Cd.region ?_
  refine Ol.p (fdl fd_api_Term_0) ?_
  refine Ol.p (ld one_api_TermKind (Rd.blk (i := 0) rfl rfl)) ?_
  refine Ol.nil ?_
  refine Cd.block ?_   -- 0
  refine Cd.seq ?_
  refine Cd.region ?_
  refine Ol.p eqi ?_
  refine Ol.p asb ?_
  refine Ol.nil ?_
  refine Cd.cond rfl (fun h => ?_) (fun h => ?_)   -- $7
  · have hv : termF s t = .done 1 (s.get t.a) := by unfold termF; rw [if_pos (of_decide_eq_true h)]
    rw [hv]
    refine Cd.seq ?_
    refine Cd.draw mixed 10 (fun _ => none) (fun _ => []) (by kernel_rfl) (fun _ _ h => by cases h) (fun u hu => ?_)
    refine Wk.p mvp ?_
    refine Wk.p nlc ?_
    refine Wk.p (fdl fd_run_Run_0) ?_
    refine Wk.p (ld (v := .map (some y.gM)) one_run_vars (Rd.blk (i := 1) rfl rfl)) ?_
    refine Wk.p (fdl fd_api_Term_1) ?_
    refine Wk.p (ld one_int (Rd.blk (i := 0) rfl rfl)) ?_
    refine Wk.p (lkn mt_run_vars (i := 2) rfl hok.all (hok.getD t.a)) ?_
    refine Wk.p (bds (cs := #[.int .i64 1, .int .i64 (s.get t.a)]) bs_run_done zr_run_done (hf := by kernel_rfl)) ?_
    refine Wk.p (mki co_run_done rfl) ?_
    refine Wk.p ase ?_
    refine Wk.nil ?_
    refine Ol.nil ?_
    exact Cd.ret ⟨_, ret1 rfl rfl, _, .sub (.cons _ (List.Sublist.refl _)), rfl, y, rfl, rfl, hok, rfl⟩
  have h1 : ¬ t.kind = 3 := of_decide_eq_false h
  refine Cd.seq ?_
  refine Cd.region ?_
  refine Ol.p eqi ?_
  refine Ol.p asb ?_
  refine Ol.nil ?_
  refine Cd.cond rfl (fun h => ?_) (fun h => ?_)   -- $18
  · have hv : termF s t = .done 2 0 := by unfold termF; rw [if_neg h1, if_pos (of_decide_eq_true h)]
    rw [hv]
    refine Cd.seq ?_
    refine Cd.region ?_
    refine Ol.x (sp_call en_run_trap (fun M w' hh => run_trap_ct)) ?_
    rintro _ _ ⟨_, rfl, rfl, rfl⟩
    refine Ol.p ase ?_
    refine Ol.nil ?_
    exact Cd.ret ⟨trapV, ret1 rfl rfl, _, .sub (.cons _ (List.Sublist.refl _)), rfl, y, rfl, rfl, hok, rfl⟩
  have h2 : ¬ t.kind = 4 := of_decide_eq_false h
  have hv0 : termF s t = if t.kind = 2 ∧ s.get t.a = 0 then .spot t.t1 0 else .spot t.t0 0 := by unfold termF; rw [if_neg h1, if_neg h2]
  rw [hv0]
  refine Cd.skip ?_
  refine Cd.seq ?_
  refine Cd.mid (fun σ' L' => Has σ' [(0, .pointer (some ⟨y.gR, 0, none⟩)), (3, .pointer (some ⟨g3, 0, none⟩)), (33, .bool (decide (t.kind = 2 ∧ s.get t.a = 0)))] ∧ blk g3 (.cells t.cells.toArray 30) :: runL y s = L') ?_ ?_
  · by_cases hk : t.kind = 2
    · have h : decide (t.kind = 2) = true := by simp [hk]
      refine Cd.draw mixed 13 (fun _ => none) (fun _ => []) (by kernel_rfl) (fun _ _ h => by cases h) (fun u hu => ?_)
      refine Wk.p (fdl fd_api_Term_0) ?_
      refine Wk.p (ld one_api_TermKind (Rd.blk (i := 0) rfl rfl)) ?_
      refine Wk.p eqi ?_
      refine Wk.p mvb ?_
      refine Wk.gp h mvp ?_
      refine Wk.gp h nlc ?_
      refine Wk.gp h (fdl fd_run_Run_0) ?_
      refine Wk.gp h (ld (v := .map (some y.gM)) one_run_vars (Rd.blk (i := 1) rfl rfl)) ?_
      refine Wk.gp h (fdl fd_api_Term_1) ?_
      refine Wk.gp h (ld one_int (Rd.blk (i := 0) rfl rfl)) ?_
      refine Wk.gp h (lkn mt_run_vars (i := 2) rfl hok.all (hok.getD t.a)) ?_
      refine Wk.gp h eqi ?_
      refine Wk.p (pkTb h) ?_
      refine Wk.nil ?_
      refine Ol.nil ?_
      exact ⟨⟨rfl, rfl, congrArg Value.bool (by simp [hk]), trivial⟩, rfl⟩
    · have h : decide (t.kind = 2) = false := by simp [hk]
      refine Cd.draw mixed 13 (fun _ => none) (fun _ => []) (by kernel_rfl) (fun _ _ h => by cases h) (fun u hu => ?_)
      refine Wk.p (fdl fd_api_Term_0) ?_
      refine Wk.p (ld one_api_TermKind (Rd.blk (i := 0) rfl rfl)) ?_
      refine Wk.p eqi ?_
      refine Wk.p mvb ?_
      refine Wk.gn h ?_
      refine Wk.gn h ?_
      refine Wk.gn h ?_
      refine Wk.gn h ?_
      refine Wk.gn h ?_
      refine Wk.gn h ?_
      refine Wk.gn h ?_
      refine Wk.gn h ?_
      refine Wk.p (pkFb h) ?_
      refine Wk.nil ?_
      refine Ol.nil ?_
      exact ⟨⟨rfl, rfl, congrArg Value.bool (by simp [hk]), trivial⟩, rfl⟩
  rintro σ' _ ⟨hs', rfl⟩
  refine Cd.has hs' ?_
  refine Cd.cond rfl (fun h => ?_) (fun h => ?_)   -- $33
  · rw [if_pos (of_decide_eq_true h)]
    refine Cd.seq ?_
    refine Cd.region ?_
    refine Ol.p (fdl fd_api_Term_2) ?_
    refine Ol.p (ixl (ix := 1) ar_A2_int) ?_
    refine Ol.p (ld one_int (Rd.blk (i := 0) rfl rfl)) ?_
    refine Ol.p (bds bs_run_spot zr_run_spot) ?_
    refine Ol.p (mki co_run_spot rfl) ?_
    refine Ol.p ase ?_
    refine Ol.nil ?_
    exact Cd.ret ⟨_, ret1 rfl rfl, _, .sub (.cons _ (List.Sublist.refl _)), rfl, y, rfl, rfl, hok, rfl⟩
  rw [if_neg (of_decide_eq_false h)]
  refine Cd.skip ?_
  refine Cd.seq ?_
  refine Cd.region ?_
  refine Ol.p (fdl fd_api_Term_2) ?_
  refine Ol.p (ixl (ix := 0) ar_A2_int) ?_
  refine Ol.p (ld one_int (Rd.blk (i := 0) rfl rfl)) ?_
  refine Ol.p (bds bs_run_spot zr_run_spot) ?_
  refine Ol.p (mki co_run_spot rfl) ?_
  refine Ol.p ase ?_
  refine Ol.nil ?_
  exact Cd.ret ⟨_, ret1 rfl rfl, _, .sub (.cons _ (List.Sublist.refl _)), rfl, y, rfl, rfl, hok, rfl⟩
end
end Go.Proofs.YtjenaenakopicaaGreat

/- The package run: a step, walked. -/
namespace Go.Proofs.YtjenaenakopicaaGreat
set_option linter.unusedVariables false
open Go Go.RowKit
set_option maxRecDepth 100000

def nxS (s : RSt) : Nx → RSt
  | .spot b i => { s with b := b.toNat, i := i.toNat }
  | .done e v => { s with e := e, v := v }
def tick (s : RSt) : RSt := { s with steps := s.steps + 1 }
def stepB (s : RSt) (b : RBlk) : RSt × Nx := match b.ins[s.i]? with
  | some i => insF (tick s) i
  | none => (tick s, termF (tick s) b.term)
def stepR (g : RFun) (s : RSt) : RSt := match g.blocks[s.b]? with
  | some b => nxS (stepB s b).1 (stepB s b).2
  | none => s
theorem insV_spot (s : RSt) (i : RIns) : (insV s i).1.b = s.b ∧ (insV s i).1.i = s.i := by
  unfold insV
  split
  · exact ⟨rfl, rfl⟩
  split
  · exact ⟨rfl, rfl⟩
  split
  · unfold callF; split <;> exact ⟨rfl, rfl⟩
  split
  · unfold memF
    split
    · exact ⟨rfl, rfl⟩
    split <;> exact ⟨rfl, rfl⟩
  exact ⟨rfl, rfl⟩
theorem RunOk.eqs {w0 : World} {B : Nat} {y : RLay} {s s' : RSt} (h : RunOk w0 B y s) (h1 : s'.vars = s.vars) (h2 : s'.calls = s.calls) (h3 : s'.ans = s.ans) : RunOk w0 B y s' :=
  ⟨h.all, fun k => by rw [h1]; exact h.get k, h2.trans h.calls, by rw [h3]; exact h.ans, by rw [h3]; exact h.acap⟩
theorem RunOk.nx {w0 : World} {B : Nat} {y : RLay} {s : RSt} (h : RunOk w0 B y s) (x : Nx) : RunOk w0 B y (nxS s x) := by
  cases x <;> exact h.eqs rfl rfl rfl
theorem runL_has {y : RLay} {s : RSt} {r : Res} (h : r ∈ funRes y.g) : ∃ j : Nat, (runL y s)[j]? = some r := by
  refine List.mem_iff_getElem?.1 ?_
  unfold runL runT
  exact List.mem_append_right _ (List.mem_append_right _ h)
section
set_option maxHeartbeats 4000000 in
theorem run_Step_cm {w0 : World} {B : Nat} {y : RLay} {s : RSt} {b : RBlk} (hok : RunOk w0 B y s) (he : s.e = 0) (hb : y.g.blocks[s.b]? = some b) (hi : s.i ≤ b.ins.length) (hil : b.ins.length < 2 ^ 50) (hal : ∀ i ∈ b.ins, i.args.length < 2 ^ 44) (hnx : ∀ bb ii, (stepB s b).2 = .spot bb ii → 0 ≤ bb ∧ 0 ≤ ii) (hcl : s.calls.length < 2 ^ 40) (hm : s.mem.length < 2 ^ 60) (hst : s.steps < 2 ^ 60) :
    Cm Tryz.prog 24 #[.pointer (some ⟨y.gR, 0, none⟩)] w0 B (runL y s) (RunTo w0 B y (stepR y.g s) (.bool true)) := by
  have hS : stepR y.g s = nxS (stepB s b).1 (stepB s b).2 := by unfold stepR; rw [hb]
  rw [hS]
  clear hS
  refine Cm.mk Tryz.func24 rfl rfl fun M => ?_
  refine Cd.seq ?_
  refine Cd.region ?_
  refine Ol.p asb ?_
  refine Ol.nil ?_
  refine Cd.seq ?_
  refine Cd.seq ?_
  have h2 : (some (⟨y.gR, 0, none⟩ : Addr)).isNone = false := rfl
  have h9 : (some y.gM).isNone = false := rfl
  refine Cd.region ?_
  refine Ol.p mvp ?_
  refine Ol.p (epn pt_P_run_Run) ?_
  refine Ol.p mvb ?_
  refine Ol.gp h2 mvp ?_
  refine Ol.gp h2 nlc ?_
  refine Ol.gp h2 (fdl fd_run_Run_0) ?_
  refine Ol.gp h2 (ld (v := .map (some y.gM)) one_run_vars (Rd.blk (i := 0) rfl rfl)) ?_
  refine Ol.gp h2 (emn mp_run_vars) ?_
  refine Ol.p (pkFb h2) ?_
  refine Ol.p mvb ?_
  refine Ol.gp h9 mvp ?_
  refine Ol.gp h9 nlc ?_
  refine Ol.gp h9 (fdl fd_run_Run_2) ?_
  refine Ol.gp h9 (fdl fd_run_done_0) ?_
  refine Ol.gp h9 (ld (v := .int .i64 s.e) one_api_EndKind (Rd.blk (i := 0) rfl rfl)) ?_
  refine Ol.gp h9 nei ?_
  refine Ol.p (pkFb h9) ?_
  refine Ol.nil ?_
  refine Cd.cond rfl (fun h => ?_) (fun h => ?_)   -- $23
  · rw [he] at h
    exact absurd h (by decide)
  refine Cd.skip ?_
  refine Cd.seq ?_
  have hw : wI ((s.steps : Int) + 1) = ((s.steps + 1 : Nat) : Int) := spot_fit s.steps hst
  refine Cd.region ?_
  refine Ol.p mvp ?_
  refine Ol.p nlc ?_
  refine Ol.p (fdl fd_run_Run_7) ?_
  refine Ol.p (ld (v := .int .i64 s.steps) one_int (Rd.blk (i := 0) rfl rfl)) ?_
  refine Ol.p (arw (.inl rfl)) ?_
  refine Ol.p nlc ?_
  refine Ol.p (fdl fd_run_Run_7) ?_
  refine Ol.s (sto (v := .int .i64 ((s.steps + 1 : Nat) : Int)) (i := 0) (k := 0 + 10) (.inr sz_int) rfl rfl rfl (by simp [runCells]) (congrArg (Value.int .i64) hw)) ?_
  refine Ol.nil ?_
  refine Cd.keep (L' := runL y (tick s)) .all ?_
  have hok1 : RunOk w0 B y (tick s) := hok.eqs rfl rfl rfl
  obtain ⟨jB, hjB⟩ : ∃ j : Nat, (runL y (tick s))[j]? = some (blkRow y.g) := runL_has (by simp [funRes])
  have hbl : s.b < y.g.blocks.length := (List.getElem?_eq_some_iff.1 hb).1
  have hbm : b ∈ y.g.blocks := List.mem_of_getElem? hb
  refine Cd.seq ?_
  refine Cd.draw mixed 13 (fun opNo => match opNo with | 12 => some (NewPv (.cells #[.slice none 0 0, .int .i64 0, .int .i64 0, .int .i64 0, .int .i64 0] 34)) | _ => none) (fun _ => []) (by kernel_rfl) (by intro q V h; split at h <;> cases h; exact ⟨_, _, 0, rfl, rfl⟩) (fun u hu => ?_)
  refine Wk.p mvp ?_
  refine Wk.p nlc ?_
  refine Wk.p (fdl fd_run_Run_3) ?_
  refine Wk.p (fdl fd_api_Func_1) ?_
  refine Wk.p (ld (v := .slice y.g.bA y.g.blocks.length y.g.bC) one_L_api_Block (Rd.blk (i := 0) rfl rfl)) ?_
  refine Wk.p mvp ?_
  refine Wk.p nlc ?_
  refine Wk.p (fdl fd_run_Run_1) ?_
  refine Wk.p (fdl fd_run_spot_0) ?_
  refine Wk.p (ld (v := .int .i64 s.b) one_int (Rd.blk (i := 0) rfl rfl)) ?_
  refine Wk.p (ixn (ix := s.b) sl_L_api_Block (Som.row (i := jB) hjB (by omega))) ?_
  refine Wk.p (ldr (es := b.cells) ag_api_Block (i := jB) hjB b.len (fun j u hu => blk_cell hb hu)) ?_
  refine Wk.x (V := NewPv (.cells #[.slice none 0 0, .int .i64 0, .int .i64 0, .int .i64 0, .int .i64 0] 34)) hu (NewP.adds (alc zr_api_Block)) ?_
  rintro _ _ hu12 ⟨g3, rfl, rfl⟩
  refine Wk.nil ?_
  rw [needs_cons hu12, needs_none]
  refine Ol.s (stw (vs := b.cells.toArray) sz_api_Block rfl b.one (i := 0) rfl rfl) ?_
  refine Ol.nil ?_
  refine Cd.seq ?_
  refine Cd.region ?_
  refine Ol.p (as_ rfl) ?_
  refine Ol.nil ?_
  refine Cd.mid (fun σ' L' => ∃ y' : RLay, y'.gR = y.gR ∧ y'.g = y.g ∧ RunOk w0 B y' (stepB s b).1 ∧ Has σ' [(0, .pointer (some ⟨y.gR, 0, none⟩)), (4, (stepB s b).2.val)] ∧ runL y' (stepB s b).1 ++ [blk g3 (.cells b.cells.toArray 34)] = L') ?_ ?_
  · refine Cd.seq ?_
    refine Cd.draw mixed 9 (fun _ => none) (fun _ => []) (by kernel_rfl) (fun _ _ h => by cases h) (fun u hu => ?_)
    refine Wk.p mvp ?_
    refine Wk.p nlc ?_
    refine Wk.p (fdl fd_run_Run_1) ?_
    refine Wk.p (fdl fd_run_spot_1) ?_
    refine Wk.p (ld (v := .int .i64 s.i) one_int (Rd.blk (i := 1) rfl rfl)) ?_
    refine Wk.p (fdl fd_api_Block_0) ?_
    refine Wk.p (ld (v := .slice b.iA b.ins.length b.iC) one_L_api_Ins (Rd.blk (i := 0) rfl rfl)) ?_
    refine Wk.p (lens sl_L_api_Ins) ?_
    refine Wk.p lsi ?_
    refine Wk.nil ?_
    refine Ol.nil ?_
    refine Cd.cond rfl (fun h => ?_) (fun h => ?_)   -- $51
    · have hlt : s.i < b.ins.length := by
        simp only [decide_eq_true_eq] at h; omega
      obtain ⟨i, hgi⟩ : ∃ i, b.ins[s.i]? = some i := ⟨_, List.getElem?_eq_getElem hlt⟩
      have him := List.mem_of_getElem? hgi
      obtain ⟨jI, hjI⟩ : ∃ j : Nat, (runL y (tick s))[j]? = some (insRow b) := runL_has (mem_blkRes hbm (List.mem_cons_self ..))
      obtain ⟨jA, hjA⟩ : ∃ j : Nat, (runL y (tick s))[j]? = some (insRes i) := runL_has (mem_blkRes hbm (List.mem_cons_of_mem _ (List.mem_map_of_mem him)))
      have hB : stepB s b = insF (tick s) i := by unfold stepB; rw [hgi]
      rw [hB]
      refine Cd.draw mixed 10 (fun _ => none) (fun _ => []) (by kernel_rfl) (fun _ _ h => by cases h) (fun u hu => ?_)
      refine Wk.p mvp ?_
      refine Wk.p (fdl fd_api_Block_0) ?_
      refine Wk.p (ld (v := .slice b.iA b.ins.length b.iC) one_L_api_Ins (Rd.blk (i := 0) rfl rfl)) ?_
      refine Wk.p mvp ?_
      refine Wk.p nlc ?_
      refine Wk.p (fdl fd_run_Run_1) ?_
      refine Wk.p (fdl fd_run_spot_1) ?_
      refine Wk.p (ld (v := .int .i64 s.i) one_int (Rd.blk (i := 1) rfl rfl)) ?_
      refine Wk.p (ixn (ix := s.i) sl_L_api_Ins (Som.row (i := jI + 1) hjI (by omega))) ?_
      refine Wk.p (ldr (es := i.cells) ag_api_Ins (i := jI + 1) hjI i.len (fun j u hu => ins_cell hgi hu)) ?_
      refine Wk.nil ?_
      refine Ol.x (sp_callm (vs := [.pointer (some ⟨y.gR, 0, none⟩), i.val]) (Lin := runL y (tick s)) (L2 := [blk g3 (.cells b.cells.toArray 34)]) (R := RunTo w0 B y (insF (tick s) i).1 (insF (tick s) i).2.val) en_P_run_Run_ins (List.perm_append_comm (l₁ := [_])) (run_ins_cm hok1 (RdS.row hjA) (hal i him) hcl hm (by show s.i < 2 ^ 60; omega))) ?_
      rintro _ _ ⟨_, rfl, rfl, y', hg1, hg2, hok', rfl⟩
      refine Ol.p (as_ rfl) ?_
      refine Ol.nil ?_
      exact ⟨y', hg1, hg2, hok', ⟨rfl, rfl, trivial⟩, rfl⟩
    have hge : b.ins.length ≤ s.i := by
      simp only [decide_eq_false_iff_not] at h; omega
    have hB : stepB s b = (tick s, termF (tick s) b.term) := by unfold stepB; rw [List.getElem?_eq_none hge]
    rw [hB]
    refine Cd.region ?_
    refine Ol.p mvp ?_
    refine Ol.p (fdl fd_api_Block_1) ?_
    refine Ol.p (ldp (k := 1) (vs := b.term.cells.toArray) ag_api_Term (i := 0) rfl rfl (fun j u hu => by rw [Nat.add_comm]; simpa [RBlk.cells] using hu)) ?_
    refine Ol.x (sp_callm (vs := [.pointer (some ⟨y.gR, 0, none⟩), b.term.val]) (Lin := runL y (tick s)) (L2 := [blk g3 (.cells b.cells.toArray 34)]) (R := RunTo w0 B y (tick s) (termF (tick s) b.term).val) en_P_run_Run_term (List.perm_append_comm (l₁ := [_])) (run_term_cm hok1)) ?_
    rintro _ _ ⟨_, rfl, rfl, y', hg1, hg2, hok', rfl⟩
    refine Ol.p (as_ rfl) ?_
    refine Ol.nil ?_
    exact ⟨y', hg1, hg2, hok', ⟨rfl, rfl, trivial⟩, rfl⟩
  rintro σ' _ ⟨y', hg1, hg2, hok', hs', rfl⟩
  rw [← hg1] at hs'
  refine Cd.has hs' ?_
  clear hs'
  refine Cd.keep (L' := runL y' (stepB s b).1) ⟨_, .refl _⟩ ?_
  obtain ⟨⟨s', x⟩, hsx⟩ : ∃ q, q = stepB s b := ⟨_, rfl⟩
  rw [← hsx] at hok' hnx ⊢
  have hok2 := hok'.nx x
  refine Cd.seq ?_
  refine Cd.seq ?_
  cases x with
  | spot bb ii =>
    obtain ⟨hbb, hii⟩ := hnx bb ii rfl
    refine Cd.region ?_
    refine Ol.p mve ?_
    refine Ol.p (tas as_spot rfl) ?_
    refine Ol.p mvt ?_
    refine Ol.p extv ?_
    refine Ol.p extv ?_
    refine Ol.x (alc zr_run_spot) ?_
    rintro _ _ ⟨g5, rfl, rfl⟩
    refine Ol.s (stw (vs := #[.int .i64 bb, .int .i64 ii]) sz_run_spot rfl (by intro u hu; simp at hu; rcases hu with rfl | rfl <;> rfl) (i := 0) rfl rfl) ?_
    refine Ol.p asb ?_
    refine Ol.nil ?_
    refine Cd.seq ?_
    refine Cd.region ?_
    refine Ol.p mvb ?_
    refine Ol.nil ?_
    refine Cd.cond rfl (fun h => ?_) (fun h => nomatch h)   -- $72
    refine Cd.seq ?_
    refine Cd.region ?_
    refine Ol.p mvp ?_
    refine Ol.p (ldw (cs := #[.int .i64 bb, .int .i64 ii]) ag_run_spot (i := 0) rfl rfl) ?_
    refine Ol.p nlc ?_
    refine Ol.p (fdl fd_run_Run_1) ?_
    refine Ol.s (sta (vs := #[.int .i64 bb, .int .i64 ii]) (i := 1) (k := 0 + 1) sz_run_spot rfl (by intro u hu; simp at hu; rcases hu with rfl | rfl <;> rfl) rfl (by simp [runCells])) ?_
    refine Ol.nil ?_
    refine Cd.seq ?_
    refine Cd.region ?_
    refine Ol.p asb ?_
    refine Ol.nil ?_
    refine Cd.ret ⟨.bool true, ret1 rfl rfl, _, .sub (.cons _ (List.Sublist.refl _)), rfl, y', hg1, hg2, hok2, ?_⟩
    have e : runCells y' (nxS s' (.spot bb ii)) = #[.map (some y'.gM), .int .i64 bb, .int .i64 ii, .int .i64 s'.e, .int .i64 s'.v, .slice y'.g.pA y'.g.params.length y'.g.pC, .slice y'.g.bA y'.g.blocks.length y'.g.bC, .slice y'.mA s'.mem.length y'.mC, .slice y'.aA s'.ans.length y'.aC, .slice y'.cA s'.calls.length y'.cC, .int .i64 s'.steps] := by
      unfold runCells nxS
      simp only [Int.toNat_of_nonneg hbb, Int.toNat_of_nonneg hii]
    show _ = blk y'.gR (.cells (runCells y' (nxS s' (.spot bb ii))) 93) :: _
    rw [e]
    rfl
  | done ee vv =>
    refine Cd.region ?_
    refine Ol.p mve ?_
    refine Ol.p (tas as_done rfl) ?_
    refine Ol.p mvt ?_
    refine Ol.p extv ?_
    refine Ol.p extv ?_
    refine Ol.x (alc zr_run_spot) ?_
    rintro _ _ ⟨g5, rfl, rfl⟩
    refine Ol.s (stw (vs := #[.int .i64 0, .int .i64 0]) sz_run_spot rfl (by intro u hu; simp at hu; rcases hu with rfl | rfl <;> rfl) (i := 0) rfl rfl) ?_
    refine Ol.p asb ?_
    refine Ol.nil ?_
    refine Cd.seq ?_
    refine Cd.region ?_
    refine Ol.p mvb ?_
    refine Ol.nil ?_
    refine Cd.cond rfl (fun h => nomatch h) (fun h => ?_)   -- $72
    refine Cd.skip ?_
    refine Cd.seq ?_
    refine Cd.region ?_
    refine Ol.p mvp ?_
    refine Ol.p mve ?_
    refine Ol.p (tas as_done2 rfl) ?_
    refine Ol.p nlc ?_
    refine Ol.p (fdl fd_run_Run_2) ?_
    refine Ol.s (sta (vs := #[.int .i64 ee, .int .i64 vv]) (i := 1) (k := 0 + 3) sz_run_done rfl (by intro u hu; simp at hu; rcases hu with rfl | rfl <;> rfl) rfl (by simp [runCells])) ?_
    refine Ol.nil ?_
    refine Cd.seq ?_
    refine Cd.region ?_
    refine Ol.p asb ?_
    refine Ol.nil ?_
    exact Cd.ret ⟨.bool true, ret1 rfl rfl, _, .sub (.cons _ (List.Sublist.refl _)), rfl, y', hg1, hg2, hok2, rfl⟩
end
end Go.Proofs.YtjenaenakopicaaGreat

/- The package run: what became of a run; where it stands; walked. -/
namespace Go.Proofs.YtjenaenakopicaaGreat
set_option linter.unusedVariables false
open Go Go.RowKit
set_option maxRecDepth 100000

structure RRes where
  e : Int
  v : Int
  cA : Option Addr
  cC : Nat
  recs : List CRec
  mA : Option Addr
  mC : Nat
  mem : List Int
  steps : Nat
def RRes.cells (z : RRes) : List Value := [.int .i64 z.e, .int .i64 z.v, .slice z.cA z.recs.length z.cC, .slice z.mA z.mem.length z.mC, .int .i64 z.steps]
def CRec.two (r : CRec) : Int × List Int := (r.callee, r.args)
def RRes.of (z : RRes) (s : RSt) : Prop := z.e = s.e ∧ z.v = s.v ∧ z.mem = s.mem ∧ z.steps = s.steps ∧ z.recs.map CRec.two = s.calls
section
def RRes.res (z : RRes) : List Res := row (.slice z.cA z.recs.length z.cC) 106 2 z.recs.length (z.recs.flatMap CRec.cells) :: row (.slice z.mA z.mem.length z.mC) 3 1 z.mem.length (ints z.mem) :: z.recs.map callRes
end
theorem rec_cell {l : List CRec} {k j : Nat} {r : CRec} {u : Value} (hk : l[k]? = some r) (hu : r.cells[j]? = some u) : (l.flatMap CRec.cells)[k * 2 + j]? = some u := by
  rw [flat_get CRec.len _ _ _ _ hk (by have := (List.getElem?_eq_some_iff.1 hu).1; rw [CRec.len] at this; exact this)]; exact hu
theorem row_has {y : RLay} {s : RSt} {r : CRec} {X : List Res} (h : r ∈ y.recs) : ∃ j : Nat, (runL y s ++ X)[j]? = some (callRes r) := by
  refine List.mem_iff_getElem?.1 ?_
  unfold runL runT
  exact List.mem_append_left _ (List.mem_append_right _ (List.mem_append_left _ (List.mem_map_of_mem h)))
section
set_option maxHeartbeats 4000000 in
theorem run_Result_cm {w0 : World} {B : Nat} {y : RLay} {s : RSt} (hok : RunOk w0 B y s) (hm : s.mem.length < 2 ^ 43) (hcl : s.calls.length < 2 ^ 36) (hal : ∀ r ∈ y.recs, r.args.length < 2 ^ 43) :
    Cm Tryz.prog 27 #[.pointer (some ⟨y.gR, 0, none⟩)] w0 B (runL y s) (fun v L => ∃ z : RRes, z.of s ∧ v = .agg z.cells.toArray ∧ L.Perm (z.res ++ runL y s)) := by
  have hlr : s.calls.length = y.recs.length := by rw [hok.calls]; simp
  refine Cm.mk Tryz.func27 rfl rfl fun M => ?_
  refine Cd.seq ?_
  refine Cd.region ?_
  refine Ol.x (alc zr_run_Result) ?_
  rintro _ _ ⟨g2, rfl, rfl⟩
  refine Ol.nil ?_
  refine Cd.seq ?_
  refine Cd.seq ?_
  have h2 : (some (⟨y.gR, 0, none⟩ : Addr)).isNone = false := rfl
  refine Cd.region ?_
  refine Ol.p mvp ?_
  refine Ol.p (epn pt_P_run_Run) ?_
  refine Ol.p mvb ?_
  refine Ol.gp h2 mvp ?_
  refine Ol.gp h2 nlc ?_
  refine Ol.gp h2 (fdl fd_run_Run_0) ?_
  refine Ol.gp h2 (ld (v := .map (some y.gM)) one_run_vars (Rd.blk (i := 1) rfl rfl)) ?_
  refine Ol.gp h2 (emn mp_run_vars) ?_
  refine Ol.p (pkFb h2) ?_
  refine Ol.nil ?_
  refine Cd.cond rfl (fun h => nomatch h) (fun h => ?_)   -- $13
  refine Cd.skip ?_
  refine Cd.seq ?_
  refine Cd.draw mixed 20 (fun opNo => match opNo with | 14 => some (NewL 3 1 s.mem.length (ints s.mem)) | _ => none) (fun _ => []) (by kernel_rfl) (by intro q V h; split at h <;> cases h; exact ⟨_, _, none, 0, rfl, rfl⟩) (fun u hu => ?_)
  refine Wk.p mvp ?_
  refine Wk.p nlc ?_
  refine Wk.p (fdl fd_run_Run_2) ?_
  refine Wk.p (fdl fd_run_done_0) ?_
  refine Wk.p (ld (v := .int .i64 s.e) one_api_EndKind (Rd.blk (i := 1) rfl rfl)) ?_
  refine Wk.p mvp ?_
  refine Wk.p nlc ?_
  refine Wk.p (fdl fd_run_Run_2) ?_
  refine Wk.p (fdl fd_run_done_1) ?_
  refine Wk.p (ld (v := .int .i64 s.v) one_int (Rd.blk (i := 1) rfl rfl)) ?_
  refine Wk.p mvp ?_
  refine Wk.p nlc ?_
  refine Wk.p (fdl fd_run_Run_4) ?_
  refine Wk.p (ld (v := .slice y.mA s.mem.length y.mC) one_L_int (Rd.blk (i := 1) rfl rfl)) ?_
  refine Wk.x (V := NewL 3 1 s.mem.length (ints s.mem)) hu (sp_call en_slices_Clone_L_int_int (fun M w' hh => slices_Clone_L_int_int_ct (xs := ints s.mem) (Reads.row hh (i := 3) rfl) (ints_one _) hm)) ?_
  rintro _ _ hu14 ⟨A29, c29, rfl, rfl⟩
  refine Wk.p mvp ?_
  refine Wk.p nlc ?_
  refine Wk.p (fdl fd_run_Run_7) ?_
  refine Wk.p (ld (v := .int .i64 s.steps) one_int (Rd.blk (i := 1) rfl rfl)) ?_
  refine Wk.p (bds (cs := #[.int .i64 s.e, .int .i64 s.v, .slice none 0 0, .slice A29 s.mem.length c29, .int .i64 s.steps]) bs_run_Result zr_run_Result (hf := by kernel_rfl)) ?_
  refine Wk.nil ?_
  rw [needs_cons hu14, needs_none]
  refine Ol.s (stw (vs := #[.int .i64 s.e, .int .i64 s.v, .slice none 0 0, .slice A29 s.mem.length c29, .int .i64 s.steps]) sz_run_Result rfl (by intro u hu; simp at hu; rcases hu with rfl | rfl | rfl | rfl | rfl <;> rfl) (i := 1) rfl rfl) ?_
  refine Ol.nil ?_
  obtain ⟨rowM, hrM⟩ : ∃ r, r = row (.slice A29 s.mem.length c29) 3 1 s.mem.length (ints s.mem) := ⟨_, rfl⟩
  rw [← hrM]
  refine Cd.nr 106 2 ?_
  refine Cd.keep (L' := row (.slice none 0 0) 106 2 0 [] :: blk g2 (.cells #[.int .i64 s.e, .int .i64 s.v, .slice none 0 0, .slice A29 s.mem.length c29, .int .i64 s.steps] 46) :: rowM :: runL y s) (keep_count [] fun _ x => by
    simp only [List.set_cons_succ, List.set_cons_zero, List.cons_append, List.nil_append, List.count_cons, List.append_nil]; omega) ?_
  refine Cd.seq ?_
  refine Cd.seq ?_
  refine Cd.region ?_
  refine Ol.p mvp ?_
  refine Ol.p nlc ?_
  refine Ol.p (fdl fd_run_Run_6) ?_
  refine Ol.p (ld (v := .slice y.cA s.calls.length y.cC) one_L_api_Call (Rd.blk (i := 3) rfl rfl)) ?_
  refine Ol.p (lens sl_L_api_Call) ?_
  refine Ol.p mvi ?_
  refine Ol.nil ?_
  refine Cd.block ?_   -- 0
  refine Cd.loop (fun m σ L => ∃ (k : Nat) (l : List CRec) (A : Option Addr) (c : Nat) (X : List Res), m = s.calls.length - k ∧ k ≤ s.calls.length ∧ l.map CRec.two = (y.recs.take k).map CRec.two ∧ X.Perm (l.map callRes) ∧ Has σ [(2, .pointer (some ⟨g2, 0, none⟩)), (38, .slice y.cA s.calls.length y.cC), (39, .int .i64 s.calls.length), (40, .int .i64 k)] ∧ row (.slice A l.length c) 106 2 l.length (l.flatMap CRec.cells) :: blk g2 (.cells #[.int .i64 s.e, .int .i64 s.v, .slice A l.length c, .slice A29 s.mem.length c29, .int .i64 s.steps] 46) :: rowM :: (runL y s ++ X) = L) (n := s.calls.length) ⟨0, [], none, 0, [], rfl, Nat.zero_le _, rfl, .refl _, ⟨rfl, rfl, rfl, rfl, trivial⟩, by rw [List.append_nil]; rfl⟩ ?_
  rintro _ σ L ⟨k, l, A, c, X, rfl, hk, hll, hX, hs, rfl⟩
  have hkl : l.length = k := by
    have := congrArg List.length hll
    simp at this; omega
  refine Cd.has hs ?_
  clear hs
  refine Cd.seq ?_
  refine Cd.region ?_
  refine Ol.p lsi ?_
  refine Ol.nil ?_
  refine Cd.seq ?_
  refine Cd.cond rfl (fun h => ?_) (fun h => ?_)   -- $41
  · have hlt : k < s.calls.length := by
      simp only [decide_eq_true_eq] at h; omega
    obtain ⟨r, hr⟩ : ∃ r, y.recs[k]? = some r := ⟨_, List.getElem?_eq_getElem (by omega)⟩
    have hrm := List.mem_of_getElem? hr
    obtain ⟨jA, hjA⟩ := row_has (y := y) (s := s) (X := X) hrm
    have hra := hal r hrm
    refine Cd.skip ?_
    refine Cd.seq ?_
    refine Cd.block ?_   -- 1
    refine Cd.seq ?_
    refine Cd.region ?_
    refine Ol.p (ixn (ix := k) sl_L_api_Call (Som.row (i := 7) rfl (by omega))) ?_
    refine Ol.p (ldr (es := r.cells) ag_api_Call (i := 7) rfl r.len (fun j u hu => rec_cell hr hu)) ?_
    refine Ol.x (alc zr_api_Call) ?_
    rintro _ _ ⟨g4, rfl, rfl⟩
    refine Ol.s (stw (vs := r.cells.toArray) sz_api_Call rfl r.one (i := 0) rfl rfl) ?_
    refine Ol.nil ?_
    refine Cd.drawT (L0 := (blk g4 (.cells r.cells.toArray 106) :: row (.slice A l.length c) 106 2 l.length (l.flatMap CRec.cells) :: blk g2 (.cells #[.int .i64 s.e, .int .i64 s.v, .slice A l.length c, .slice A29 s.mem.length c29, .int .i64 s.steps] 46) :: rowM :: (runL y s ++ X))) mixed 9 (fun opNo => match opNo with | 6 => some (NewL 3 1 r.args.length (ints r.args)) | 8 => some (fun v T => ∃ g A c, v = .slice (some ⟨g, 0, none⟩) 1 1 ∧ T = [row (.slice (some ⟨g, 0, none⟩) 1 1) 106 2 1 (CRec.cells ⟨r.callee, A, c, r.args⟩), callRes ⟨r.callee, A, c, r.args⟩]) | _ => none) (fun opNo => match opNo with | 8 => [6] | _ => []) (fun opNo => match opNo with | 8 => some 6 | _ => none) [] (fun _ => []) (by kernel_rfl) (.refl _) (by intro c hc; cases hc) (by intro q V h; split at h <;> cases h; exact ⟨_, _, none, 0, rfl, rfl⟩; exact ⟨_, _, 0, none, 0, rfl, rfl⟩) (fun u hu hu0 => ?_)
    refine WkT.p (fdl fd_run_Result_2) ?_
    refine WkT.p (ld (v := .slice A l.length c) one_L_api_Call (Rd.blk (i := 2) rfl rfl)) ?_
    refine WkT.p (fdl fd_api_Call_0) ?_
    refine WkT.p (ld (v := .int .i64 r.callee) one_int (Rd.blk (i := 0) rfl rfl)) ?_
    refine WkT.p (fdl fd_api_Call_1) ?_
    refine WkT.p (ld (v := .slice r.A r.args.length r.c) one_L_int (Rd.blk (i := 0) rfl rfl)) ?_
    refine WkT.xn (V := NewL 3 1 r.args.length (ints r.args)) (l := []) (l2 := []) hu rfl rfl rfl (by rw [needs_none]; exact (sp_call en_slices_Clone_L_int_int (fun M w' hh => slices_Clone_L_int_int_ct (xs := ints r.args) (Reads.row hh (i := jA + 4) hjA) (ints_one _) hra))) ?_
    rintro _ _ hu6 ⟨A50, c50, rfl, rfl⟩
    refine WkT.p (bds (cs := (CRec.cells ⟨r.callee, A50, c50, r.args⟩).toArray) bs_api_Call zr_api_Call (hf := by kernel_rfl)) ?_
    refine WkT.xn (V := fun v T => ∃ g A c, v = .slice (some ⟨g, 0, none⟩) 1 1 ∧ T = [row (.slice (some ⟨g, 0, none⟩) 1 1) 106 2 1 (CRec.cells ⟨r.callee, A, c, r.args⟩), callRes ⟨r.callee, A, c, r.args⟩]) (l := [6]) (l2 := []) hu rfl rfl rfl (by rw [needs_cons hu6, needs_none]; exact (fun M w hh => Goes.mono (bs1 (v := .agg (CRec.cells ⟨r.callee, A50, c50, r.args⟩).toArray) (cs := CRec.cells ⟨r.callee, A50, c50, r.args⟩) sl_L_api_Call zr_api_Call rfl rfl (by decide) rfl M w hh) fun v w' ⟨L', h1, g, h2, h3⟩ => ⟨L', h1, _, by rw [h3, h2]; rfl, g, A50, c50, h2, rfl⟩)) ?_
    rintro _ _ hu8 ⟨g52, A2, c2, rfl, rfl⟩
    refine WkT.nil ?_
    change Ol _ _ _ _ _ (needs u [8] _)
    rw [needs_cons hu8, needs_none]
    refine Ol.x (apn (i := 3) (m := 1) sl_L_api_Call zr_api_Call rfl (by decide) rfl (Src.row (i := 0) rfl rfl) (CRec.one _) (by unfold maxLen; omega) (by omega)) ?_
    rintro _ _ ⟨A3, c3, rfl, rfl⟩
    refine Ol.p (fdl fd_run_Result_2) ?_
    refine Ol.s (sto (v := .slice A3 (l.length + 1) c3) (i := 4) (k := 0 + 2) (.inr sz_L_api_Call) rfl rfl rfl (by simp) rfl) ?_
    refine Ol.keep (keep_count (L' := row (.slice A3 (l.length + 1) c3) 106 2 (l.length + 1) (l.flatMap CRec.cells ++ CRec.cells ⟨r.callee, A2, c2, r.args⟩) :: blk g2 (.cells #[.int .i64 s.e, .int .i64 s.v, .slice A3 (l.length + 1) c3, .slice A29 s.mem.length c29, .int .i64 s.steps] 46) :: rowM :: (runL y s ++ (callRes ⟨r.callee, A2, c2, r.args⟩ :: X))) [row (.slice (some ⟨g52, 0, none⟩) 1 1) 106 2 1 (CRec.cells ⟨r.callee, A2, c2, r.args⟩), blk g4 (.cells r.cells.toArray 106)] fun _ x => by simp only [List.set_cons_succ, List.set_cons_zero, List.cons_append, List.nil_append, List.count_cons, List.count_append, List.count_nil, List.append_nil]; rw [show (#[.int .i64 s.e, .int .i64 s.v, .slice A l.length c, .slice A29 s.mem.length c29, .int .i64 s.steps] : Array Value).setIfInBounds (0 + 2) (.slice A3 (l.length + 1) c3) = #[.int .i64 s.e, .int .i64 s.v, .slice A3 (l.length + 1) c3, .slice A29 s.mem.length c29, .int .i64 s.steps] from rfl]; omega) ?_
    refine Ol.nil ?_
    refine Cd.region ?_
    refine Ol.p addi ?_
    refine Ol.p mvi ?_
    refine Ol.nil ?_
    have e1 : l.length + 1 = (l ++ [(⟨r.callee, A2, c2, r.args⟩ : CRec)]).length := by simp
    have e2 : l.flatMap CRec.cells ++ CRec.cells ⟨r.callee, A2, c2, r.args⟩ = (l ++ [(⟨r.callee, A2, c2, r.args⟩ : CRec)]).flatMap CRec.cells := by simp
    rw [e1, e2]
    refine ⟨s.calls.length - (k + 1), by omega, k + 1, l ++ [⟨r.callee, A2, c2, r.args⟩], A3, c3, callRes ⟨r.callee, A2, c2, r.args⟩ :: X, rfl, by omega, ?_, ?_, ⟨rfl, rfl, rfl, rfl, trivial⟩, rfl⟩
    · rw [take_snoc_ hr, List.map_append, List.map_append, hll]; rfl
    · rw [List.map_append]
      exact ((hX.cons _).trans (List.perm_append_singleton _ _).symm)
  have hke : k = s.calls.length := by
    simp only [decide_eq_false_iff_not] at h; omega
  refine Cd.exit (id := 0) ?_
  refine Cd.seq ?_
  refine Cd.region ?_
  refine Ol.p (ldw (cs := #[.int .i64 s.e, .int .i64 s.v, .slice A l.length c, .slice A29 s.mem.length c29, .int .i64 s.steps]) ag_run_Result (i := 1) rfl rfl) ?_
  refine Ol.s (stw (vs := #[.int .i64 s.e, .int .i64 s.v, .slice A l.length c, .slice A29 s.mem.length c29, .int .i64 s.steps]) sz_run_Result rfl (by intro u hu; simp at hu; rcases hu with rfl | rfl | rfl | rfl | rfl <;> rfl) (i := 1) rfl rfl) ?_
  refine Ol.nil ?_
  refine Cd.ret ⟨_, retc rfl ag_run_Result rfl (i := 1) rfl rfl, _, .sub (.cons_cons _ (.cons _ (List.Sublist.refl _))), ⟨s.e, s.v, A, c, l, A29, c29, s.mem, s.steps⟩, ⟨rfl, rfl, rfl, rfl, ?_⟩, rfl, ?_⟩
  · rw [hok.calls, hll, hke, hlr, List.take_of_length_le (Nat.le_refl _)]; rfl
  · rw [hrM]
    exact ((List.perm_append_comm.trans (hX.append_right _)).cons _).cons _
end
end Go.Proofs.YtjenaenakopicaaGreat

/- The package run: a function is copied, walked. -/
namespace Go.Proofs.YtjenaenakopicaaGreat
set_option linter.unusedVariables false
open Go Go.RowKit
set_option maxRecDepth 100000

theorem get_next {α : Type} {l l' : List α} {q : Nat} {x : α} (hq : l'.length = q) (hx : l[q]? = some x) : (l' ++ l.drop q)[q]? = some x := by
  rw [List.getElem?_append_right (by omega), hq, Nat.sub_self, List.getElem?_drop]
  simpa using hx
theorem put_next {α : Type} {l l' : List α} {q : Nat} {x x' : α} (hq : l'.length = q) (hx : l[q]? = some x) : (l' ++ l.drop q).set q x' = (l' ++ [x']) ++ l.drop (q + 1) := by
  obtain ⟨hlt, hv⟩ := List.getElem?_eq_some_iff.1 hx
  rw [List.drop_eq_getElem_cons hlt, List.set_append_right _ _ (by omega), hq, Nat.sub_self, List.set_cons_zero]
  simp
section
theorem slices_Clone_L_api_Ins_ct {w : World} {A : Option Addr} {c n : Nat} {xs : List Value} (hl : Reads w w.heap.size 8 A n xs) (h1 : ∀ u ∈ xs, u.oneCell' = true) (hb : n < 2 ^ 36) : Ct Tryz.prog 95 #[.slice A n c] w (NewL 25 8 n xs) := by
  refine Ct.mk Tryz.func95 rfl rfl ?_
  refine Cd.seq ?_
  refine Cd.region ?_
  refine Ol.p ass ?_
  refine Ol.nil ?_
  refine Cd.seq ?_
  refine Cd.seq ?_
  refine Cd.region ?_
  refine Ol.p mvs ?_
  refine Ol.p (esn sl_L_api_Ins) ?_
  refine Ol.nil ?_
  refine Cd.cond rfl (fun h => ?_) (fun h => ?_)
  · refine Cd.seq ?_
    refine Cd.region ?_
    refine Ol.p ass ?_
    refine Ol.nil ?_
    refine Cd.nr 25 8 ?_
    have h0 : n = 0 := by
      rcases Nat.eq_zero_or_pos n with h0 | h0
      · exact h0
      · obtain ⟨a, rfl, _⟩ := hl.2 h0; cases h
    subst h0
    have hx : xs = [] := List.eq_nil_of_length_eq_zero (by simpa using hl.1)
    subst hx
    refine Cd.ret ⟨.slice none 0 0, ret1 rfl rfl, _, .all, none, 0, rfl, rfl⟩
  · refine Cd.skip ?_
    refine Cd.seq ?_
    refine Cd.region ?_
    refine Ol.x (bsn [] sl_L_api_Ins zr_api_Ins (by simp) rfl (by omega) (by simp [maxLen])) ?_
    rintro _ _ ⟨g5, rfl, rfl⟩
    refine Ol.p mvs ?_
    refine Ol.x (apn (i := 0) (n := 0) (xs := []) sl_L_api_Ins zr_api_Ins rfl (by decide) rfl (Src.slc hl) h1 (by unfold maxLen; omega) (by omega)) ?_
    rintro _ _ ⟨A', c', rfl, rfl⟩
    refine Ol.p ass ?_
    refine Ol.nil ?_
    rw [Nat.zero_add]
    refine Cd.ret ⟨.slice A' n c', ret1 rfl rfl, _, .all, A', c', rfl, rfl⟩
end
section
theorem slices_Clone_L_api_Block_ct {w : World} {A : Option Addr} {c n : Nat} {xs : List Value} (hl : Reads w w.heap.size 5 A n xs) (h1 : ∀ u ∈ xs, u.oneCell' = true) (hb : n < 2 ^ 36) : Ct Tryz.prog 94 #[.slice A n c] w (NewL 34 5 n xs) := by
  refine Ct.mk Tryz.func94 rfl rfl ?_
  refine Cd.seq ?_
  refine Cd.region ?_
  refine Ol.p ass ?_
  refine Ol.nil ?_
  refine Cd.seq ?_
  refine Cd.seq ?_
  refine Cd.region ?_
  refine Ol.p mvs ?_
  refine Ol.p (esn sl_L_api_Block) ?_
  refine Ol.nil ?_
  refine Cd.cond rfl (fun h => ?_) (fun h => ?_)
  · refine Cd.seq ?_
    refine Cd.region ?_
    refine Ol.p ass ?_
    refine Ol.nil ?_
    refine Cd.nr 34 5 ?_
    have h0 : n = 0 := by
      rcases Nat.eq_zero_or_pos n with h0 | h0
      · exact h0
      · obtain ⟨a, rfl, _⟩ := hl.2 h0; cases h
    subst h0
    have hx : xs = [] := List.eq_nil_of_length_eq_zero (by simpa using hl.1)
    subst hx
    refine Cd.ret ⟨.slice none 0 0, ret1 rfl rfl, _, .all, none, 0, rfl, rfl⟩
  · refine Cd.skip ?_
    refine Cd.seq ?_
    refine Cd.region ?_
    refine Ol.x (bsn [] sl_L_api_Block zr_api_Block (by simp) rfl (by omega) (by simp [maxLen])) ?_
    rintro _ _ ⟨g5, rfl, rfl⟩
    refine Ol.p mvs ?_
    refine Ol.x (apn (i := 0) (n := 0) (xs := []) sl_L_api_Block zr_api_Block rfl (by decide) rfl (Src.slc hl) h1 (by unfold maxLen; omega) (by omega)) ?_
    rintro _ _ ⟨A', c', rfl, rfl⟩
    refine Ol.p ass ?_
    refine Ol.nil ?_
    rw [Nat.zero_add]
    refine Cd.ret ⟨.slice A' n c', ret1 rfl rfl, _, .all, A', c', rfl, rfl⟩
end
section
set_option maxHeartbeats 4000000 in
theorem run_copied_ct {w : World} {f : RFun} (hf : FunAt w w.heap.size f) (hp : f.params.length < 2 ^ 43) (hl : BlksIn w w.heap.size f.bA f.blocks) (hal : ∀ b ∈ f.blocks, ∀ i ∈ b.ins, i.args.length < 2 ^ 43) : Ct Tryz.prog 56 #[f.val] w (fun v R => ∃ g : RFun, g.bare = f.bare ∧ v = g.val ∧ R.Perm (funRes g)) := by
  have hlen := hl.len
  refine Ct.mk Tryz.func56 rfl rfl ?_
  refine Cd.seq ?_
  refine Cd.region ?_
  refine Ol.x bxg ?_
  rintro _ _ ⟨g1, rfl, rfl⟩
  refine Ol.x (alc zr_api_Func) ?_
  rintro _ _ ⟨g2, rfl, rfl⟩
  refine Ol.nil ?_
  refine Cd.seq ?_
  refine Cd.draw mixed 7 (fun opNo => match opNo with | 2 => some (NewL 3 1 f.params.length (ints f.params)) | 5 => some (NewL 34 5 f.blocks.length (f.blocks.flatMap RBlk.cells)) | _ => none) (fun _ => []) (by kernel_rfl) (by intro q V h; split at h <;> cases h; exact ⟨_, _, none, 0, rfl, rfl⟩; exact ⟨_, _, none, 0, rfl, rfl⟩) (fun u hu => ?_)
  refine Wk.p (fdl fd_api_Func_0) ?_
  refine Wk.p (ld (v := .slice f.pA f.params.length f.pC) one_L_int (Rd.blk (i := 1) rfl rfl)) ?_
  refine Wk.x (V := NewL 3 1 f.params.length (ints f.params)) hu (sp_call en_slices_Clone_L_int_int (fun M w' hh => slices_Clone_L_int_int_ct (hf.params.now hh) (ints_one _) hp)) ?_
  rintro _ _ hu2 ⟨A8, c8, rfl, rfl⟩
  refine Wk.p (fdl fd_api_Func_1) ?_
  refine Wk.p (ld (v := .slice f.bA f.blocks.length f.bC) one_L_api_Block (Rd.blk (i := 1) rfl rfl)) ?_
  refine Wk.x (V := NewL 34 5 f.blocks.length (f.blocks.flatMap RBlk.cells)) hu (sp_call en_slices_Clone_L_api_Block_api_Block (fun M w' hh => slices_Clone_L_api_Block_ct (hl.row.now hh) (one_flatB _) hlen)) ?_
  rintro _ _ hu5 ⟨A11, c11, rfl, rfl⟩
  refine Wk.p (fdl fd_api_Func_0) ?_
  refine Wk.nil ?_
  rw [needs_cons hu5, needs_cons hu2, needs_none]
  refine Ol.s (sto (v := .slice A8 f.params.length c8) (i := 3) (k := 0 + 0) (.inr sz_L_int) rfl rfl rfl (by simp [RFun.cells]) rfl) ?_
  refine Ol.p (fdl fd_api_Func_1) ?_
  refine Ol.s (sto (v := .slice A11 f.blocks.length c11) (i := 3) (k := 0 + 1) (.inr sz_L_api_Block) rfl rfl rfl (by simp [RFun.cells]) rfl) ?_
  refine Ol.nil ?_
  obtain ⟨rowP, hrP⟩ : ∃ r, r = row (.slice A8 f.params.length c8) 3 1 f.params.length (ints f.params) := ⟨_, rfl⟩
  rw [← hrP]
  refine Cd.seq ?_
  refine Cd.seq ?_
  refine Cd.region ?_
  refine Ol.p (fdl fd_api_Func_1) ?_
  refine Ol.p (ld (v := .slice A11 f.blocks.length c11) one_L_api_Block (Rd.blk (i := 3) rfl rfl)) ?_
  refine Ol.p (lens sl_L_api_Block) ?_
  refine Ol.p mvi ?_
  refine Ol.nil ?_
  refine Cd.block ?_   -- 0
  refine Cd.loop (fun m σ L => ∃ (k : Nat) (l' : List RBlk) (X : List Res), m = f.blocks.length - k ∧ k ≤ f.blocks.length ∧ l'.map RBlk.bare = (f.blocks.take k).map RBlk.bare ∧ X.Perm (l'.flatMap blkRes) ∧ Has σ [(1, .pointer (some ⟨g1, 0, none⟩)), (2, .pointer (some ⟨g2, 0, none⟩)), (16, .int .i64 f.blocks.length), (17, .int .i64 k)] ∧ row (.slice A11 f.blocks.length c11) 34 5 f.blocks.length ((l' ++ f.blocks.drop k).flatMap RBlk.cells) :: rowP :: blk g2 (.cells #[.slice none 0 0, .slice none 0 0] 37) :: blk g1 (.cells #[.slice A8 f.params.length c8, .slice A11 f.blocks.length c11] 37) :: X = L) (n := f.blocks.length) ⟨0, [], [], rfl, Nat.zero_le _, rfl, .refl _, ⟨rfl, rfl, rfl, rfl, trivial⟩, rfl⟩ ?_
  rintro _ σ L ⟨k, l', X, rfl, hk, hbare, hX, hs, rfl⟩
  have hkl : l'.length = k := by
    have := congrArg List.length hbare
    simp at this; omega
  refine Cd.has hs ?_
  clear hs
  refine Cd.seq ?_
  refine Cd.region ?_
  refine Ol.p lsi ?_
  refine Ol.nil ?_
  refine Cd.seq ?_
  refine Cd.cond rfl (fun h => ?_) (fun h => ?_)   -- $18
  · have hlt : k < f.blocks.length := by
      simp only [decide_eq_true_eq] at h; omega
    obtain ⟨b, hb⟩ : ∃ b, f.blocks[k]? = some b := ⟨_, List.getElem?_eq_getElem hlt⟩
    have hbm := List.mem_of_getElem? hb
    have hil := hl.ilen b hbm
    refine Cd.skip ?_
    refine Cd.seq ?_
    refine Cd.block ?_   -- 1
    refine Cd.seq ?_
    refine Cd.region ?_
    refine Ol.p mvi ?_
    refine Ol.p asi ?_
    refine Ol.nil ?_
    refine Cd.seq ?_
    refine Cd.region ?_
    refine Ol.p (fdl fd_api_Func_1) ?_
    refine Ol.p (ld (v := .slice A11 f.blocks.length c11) one_L_api_Block (Rd.blk (i := 3) rfl rfl)) ?_
    refine Ol.p mvi ?_
    refine Ol.p (ixn (ix := k) sl_L_api_Block (Som.row (i := 0) rfl (by omega))) ?_
    refine Ol.p (fdp fd_api_Block_0) ?_
    refine Ol.p (ld (v := .slice b.iA b.ins.length b.iC) one_L_api_Ins (Rd.row (i := 0) rfl (blk_cell (j := 0) (get_next hkl hb) rfl))) ?_
    refine Ol.x (sp_call en_slices_Clone_L_api_Ins_api_Ins (fun M w' hh => slices_Clone_L_api_Ins_ct ((hl.ins b hbm).now hh) (one_flatI _) hil)) ?_
    rintro _ _ ⟨_, rfl, A26, c26, rfl, rfl⟩
    refine Ol.p ass ?_
    refine Ol.nil ?_
    refine Cd.seq ?_
    refine Cd.seq ?_
    refine Cd.region ?_
    refine Ol.p mvs ?_
    refine Ol.p (lens sl_L_api_Ins) ?_
    refine Ol.p mvi ?_
    refine Ol.nil ?_
    refine Cd.block ?_   -- 2
    refine Cd.loop (fun m σ L => ∃ (q : Nat) (il : List RIns) (X2 : List Res), m = b.ins.length - q ∧ q ≤ b.ins.length ∧ il.map RIns.bare = (b.ins.take q).map RIns.bare ∧ X2.Perm (il.map insRes ++ l'.flatMap blkRes) ∧ Has σ [(1, .pointer (some ⟨g1, 0, none⟩)), (2, .pointer (some ⟨g2, 0, none⟩)), (3, .int .i64 k), (4, .slice A26 b.ins.length c26), (16, .int .i64 f.blocks.length), (17, .int .i64 k), (28, .int .i64 b.ins.length), (29, .int .i64 q)] ∧ row (.slice A26 b.ins.length c26) 25 8 b.ins.length ((il ++ b.ins.drop q).flatMap RIns.cells) :: row (.slice A11 f.blocks.length c11) 34 5 f.blocks.length ((l' ++ f.blocks.drop k).flatMap RBlk.cells) :: rowP :: blk g2 (.cells #[.slice none 0 0, .slice none 0 0] 37) :: blk g1 (.cells #[.slice A8 f.params.length c8, .slice A11 f.blocks.length c11] 37) :: X2 = L) (n := b.ins.length) ⟨0, [], X, rfl, Nat.zero_le _, rfl, hX, ⟨rfl, rfl, rfl, rfl, rfl, rfl, rfl, rfl, trivial⟩, rfl⟩ ?_
    rintro _ σ L ⟨q, il, X2, rfl, hq, hib, hX2, hs, rfl⟩
    have hql : il.length = q := by
      have := congrArg List.length hib
      simp at this; omega
    refine Cd.has hs ?_
    clear hs
    refine Cd.seq ?_
    refine Cd.region ?_
    refine Ol.p lsi ?_
    refine Ol.nil ?_
    refine Cd.seq ?_
    refine Cd.cond rfl (fun h => ?_) (fun h => ?_)   -- $30
    · have hqt : q < b.ins.length := by
        simp only [decide_eq_true_eq] at h; omega
      obtain ⟨i, hi⟩ : ∃ i, b.ins[q]? = some i := ⟨_, List.getElem?_eq_getElem hqt⟩
      have him := List.mem_of_getElem? hi
      have hial := hal b hbm i him
      have e : ∀ (A : Option Addr) (c : Nat), ((il ++ b.ins.drop q).flatMap RIns.cells).set (q * 8 + 6) (.slice A i.args.length c) = (il ++ [i.at_ A c] ++ b.ins.drop (q + 1)).flatMap RIns.cells := fun A c => by
        rw [flat_set_at (F := RIns.cells) RIns.len (by decide) (x := i) (x' := i.at_ A c) rfl (get_next hql hi), put_next hql hi]
      refine Cd.skip ?_
      refine Cd.seq ?_
      refine Cd.block ?_   -- 3
      refine Cd.seq ?_
      refine Cd.region ?_
      refine Ol.p mvi ?_
      refine Ol.p asi ?_
      refine Ol.nil ?_
      refine Cd.region ?_
      refine Ol.p mvs ?_
      refine Ol.p mvi ?_
      refine Ol.p mvs ?_
      refine Ol.p mvi ?_
      refine Ol.p (ixn (ix := q) sl_L_api_Ins (Som.row (i := 0) rfl (by omega))) ?_
      refine Ol.p (fdp fd_api_Ins_6) ?_
      refine Ol.p (ld (v := .slice i.aA i.args.length i.aC) one_L_int (Rd.row (i := 0) rfl (ins_cell (j := 6) (get_next hql hi) rfl))) ?_
      refine Ol.x (sp_call en_slices_Clone_L_int_int (fun M w' hh => slices_Clone_L_int_int_ct (xs := ints i.args) ((hl.args b hbm i him).now hh) (ints_one _) hial)) ?_
      rintro _ _ ⟨_, rfl, A39, c39, rfl, rfl⟩
      refine Ol.p (ixn (ix := q) sl_L_api_Ins (Som.row (i := 1) rfl (by omega))) ?_
      refine Ol.p (fdp fd_api_Ins_6) ?_
      refine Ol.s (str (v := .slice A39 i.args.length c39) (i := 1) (k := q * 8 + 6) (A := A26) (xs := (il ++ b.ins.drop q).flatMap RIns.cells) sz_L_int rfl rfl rfl (List.getElem?_eq_some_iff.1 (ins_cell (j := 6) (get_next hql hi) rfl)).1 rfl) ?_
      refine Ol.keep (keep_count (L' := row (.slice A26 b.ins.length c26) 25 8 b.ins.length ((il ++ [i.at_ A39 c39] ++ b.ins.drop (q + 1)).flatMap RIns.cells) :: row (.slice A11 f.blocks.length c11) 34 5 f.blocks.length ((l' ++ f.blocks.drop k).flatMap RBlk.cells) :: rowP :: blk g2 (.cells #[.slice none 0 0, .slice none 0 0] 37) :: blk g1 (.cells #[.slice A8 f.params.length c8, .slice A11 f.blocks.length c11] 37) :: insRes (i.at_ A39 c39) :: X2) [] fun _ x => by rw [e, show insRes (i.at_ A39 c39) = row (.slice A39 i.args.length c39) 3 1 i.args.length (ints i.args) from rfl]; simp only [List.cons_append, List.nil_append, List.set_cons_succ, List.set_cons_zero, List.count_cons, List.append_nil]; omega) ?_
      refine Ol.nil ?_
      refine Cd.region ?_
      refine Ol.p addi ?_
      refine Ol.p mvi ?_
      refine Ol.nil ?_
      refine ⟨b.ins.length - (q + 1), by omega, q + 1, il ++ [i.at_ A39 c39], insRes (i.at_ A39 c39) :: X2, rfl, by omega, ?_, ?_, ⟨rfl, rfl, rfl, rfl, rfl, rfl, rfl, rfl, trivial⟩, rfl⟩
      · rw [take_snoc_ hi, List.map_append, List.map_append, hib]; rfl
      · rw [List.map_append, List.append_assoc]
        exact (hX2.cons _).trans List.perm_middle.symm
    have hqe : q = b.ins.length := by
      simp only [decide_eq_false_iff_not] at h; omega
    have hil' : il.length = b.ins.length := by omega
    have hdr : il ++ b.ins.drop q = il := by rw [List.drop_eq_nil_of_le (by omega), List.append_nil]
    have hib2 : il.map RIns.bare = b.ins.map RIns.bare := by rw [hib, hqe, List.take_of_length_le (Nat.le_refl _)]
    have e : ((l' ++ f.blocks.drop k).flatMap RBlk.cells).set (k * 5 + 0) (.slice A26 b.ins.length c26) = (l' ++ [b.at_ A26 c26 il] ++ f.blocks.drop (k + 1)).flatMap RBlk.cells := by
      rw [flat_set_at (F := RBlk.cells) RBlk.len (by decide) (x := b) (x' := b.at_ A26 c26 il) (by unfold RBlk.at_ RBlk.cells; simp only [hil']; rfl) (get_next hkl hb), put_next hkl hb]
    have e2 : insRow (b.at_ A26 c26 il) = row (.slice A26 b.ins.length c26) 25 8 b.ins.length (il.flatMap RIns.cells) := by
      unfold insRow RBlk.at_; simp only [hil']
    refine Cd.exit (id := 2) ?_
    refine Cd.region ?_
    refine Ol.p (fdl fd_api_Func_1) ?_
    refine Ol.p (ld (v := .slice A11 f.blocks.length c11) one_L_api_Block (Rd.blk (i := 4) rfl rfl)) ?_
    refine Ol.p mvi ?_
    refine Ol.p mvs ?_
    refine Ol.p (ixn (ix := k) sl_L_api_Block (Som.row (i := 1) rfl (by omega))) ?_
    refine Ol.p (fdp fd_api_Block_0) ?_
    refine Ol.s (str (v := .slice A26 b.ins.length c26) (i := 1) (k := k * 5 + 0) (A := A11) (xs := (l' ++ f.blocks.drop k).flatMap RBlk.cells) sz_L_api_Ins rfl rfl rfl (List.getElem?_eq_some_iff.1 (blk_cell (j := 0) (get_next hkl hb) rfl)).1 rfl) ?_
    refine Ol.keep (keep_count (L' := row (.slice A11 f.blocks.length c11) 34 5 f.blocks.length ((l' ++ [b.at_ A26 c26 il] ++ f.blocks.drop (k + 1)).flatMap RBlk.cells) :: rowP :: blk g2 (.cells #[.slice none 0 0, .slice none 0 0] 37) :: blk g1 (.cells #[.slice A8 f.params.length c8, .slice A11 f.blocks.length c11] 37) :: insRow (b.at_ A26 c26 il) :: X2) [] fun _ x => by rw [e, e2, hdr]; simp only [List.set_cons_succ, List.set_cons_zero, List.count_cons, List.append_nil]; omega) ?_
    refine Ol.nil ?_
    refine Cd.region ?_
    refine Ol.p addi ?_
    refine Ol.p mvi ?_
    refine Ol.nil ?_
    refine ⟨f.blocks.length - (k + 1), by omega, k + 1, l' ++ [b.at_ A26 c26 il], insRow (b.at_ A26 c26 il) :: X2, rfl, by omega, ?_, ?_, ⟨rfl, rfl, rfl, rfl, trivial⟩, rfl⟩
    · rw [take_snoc_ hb, List.map_append, List.map_append, hbare, List.map_singleton, List.map_singleton, RBlk.at_bare hib2]
    · rw [List.flatMap_append]
      have : [b.at_ A26 c26 il].flatMap blkRes = insRow (b.at_ A26 c26 il) :: il.map insRes := by simp [blkRes, RBlk.at_]
      rw [this]
      exact (hX2.cons _).trans (List.perm_append_comm (l₁ := insRow (b.at_ A26 c26 il) :: il.map insRes))
  have hke : k = f.blocks.length := by
    simp only [decide_eq_false_iff_not] at h; omega
  have hll : l'.length = f.blocks.length := by omega
  have hdr : l' ++ f.blocks.drop k = l' := by rw [List.drop_eq_nil_of_le (by omega), List.append_nil]
  refine Cd.exit (id := 0) ?_
  refine Cd.seq ?_
  refine Cd.region ?_
  refine Ol.p (ldw (cs := #[.slice A8 f.params.length c8, .slice A11 f.blocks.length c11]) ag_api_Func (i := 3) rfl rfl) ?_
  refine Ol.s (stw (vs := #[.slice A8 f.params.length c8, .slice A11 f.blocks.length c11]) sz_api_Func rfl (by intro u hu; simp at hu; rcases hu with rfl | rfl <;> rfl) (i := 2) rfl rfl) ?_
  refine Ol.nil ?_
  refine Cd.ret ⟨_, retc rfl ag_api_Func rfl (i := 2) rfl rfl, _, .sub (.cons_cons _ (.cons_cons _ (.cons _ (.cons _ (List.Sublist.refl _))))), ⟨A8, c8, f.params, A11, c11, l'⟩, ?_, ?_, ?_⟩
  · unfold RFun.bare
    rw [show (l' : List RBlk).map RBlk.bare = f.blocks.map RBlk.bare by rw [hbare, hke, List.take_of_length_le (Nat.le_refl _)]]
  · unfold RFun.val RFun.cells
    simp only [hll]
  · rw [hdr, hrP, ← hll]
    exact ((hX.cons _).cons _).trans (List.Perm.swap ..)
end
end Go.Proofs.YtjenaenakopicaaGreat

/- The package run: a run begins, walked. -/
namespace Go.Proofs.YtjenaenakopicaaGreat
set_option linter.unusedVariables false
open Go Go.RowKit
set_option maxRecDepth 100000

def begV (l : List (Int × Int)) : Int → Option Int := l.foldl (fun f p => updI f p.1 p.2) (fun _ => none)
theorem begV_snoc (l : List (Int × Int)) (p : Int × Int) : begV (l ++ [p]) = updI (begV l) p.1 p.2 := by
  unfold begV
  rw [List.foldl_append]
  rfl
def begS (f : RFun) (args mem ans : List Int) : RSt := ⟨begV (f.params.zip args), 0, 0, 0, 0, mem, ans, [], 0⟩
def okB (f : RFun) (args mem : List Int) : Prop := rightF f = 0 ∧ args.length = f.params.length ∧ mem.length ≤ 64
noncomputable instance (f : RFun) (args mem : List Int) : Decidable (okB f args mem) := by unfold okB; infer_instance
/-- A slice of one's own is no longer than its room. -/
theorem Cd.cap {C : Ctx} {k : Code} {Q : Exit → Env → List Res → Prop} {σ : Env} {L : List Res} {i n c e s : Nat} {A : Option Addr} {xs : List Value} (hi : L[i]? = some (row (.slice A n c) e s n xs)) (hc : n ≤ c → Cd C k Q σ L) : Cd C k Q σ L := fun a w ha hs =>
  hc (cap_row (hs.heap.at_ hi)) a w ha hs
section
def BegR (f : RFun) (args mem ans : List Int) : Value → List Res → Prop := fun v R =>
  (okB f args mem ∧ ∃ y : RLay, y.g.bare = f.bare ∧ (∀ w0 B, RunOk w0 B y (begS f args mem ans)) ∧ v = .tuple #[.pointer (some ⟨y.gR, 0, none⟩), .int .i64 0] ∧ R = runL y (begS f args mem ans)) ∨
  (¬ okB f args mem ∧ v = .tuple #[.pointer none, .int .i64 2] ∧ R = [])
set_option maxHeartbeats 4000000 in
theorem run_Begin_ct {w : World} {f : RFun} {aA mA nA : Option Addr} {aC mC nC : Nat} {args mem ans : List Int} (hf : FunAt w w.heap.size f) (hfit : Fit f) (hp : f.params.length < 2 ^ 43) (hl : BlksIn w w.heap.size f.bA f.blocks) (hal : ∀ b ∈ f.blocks, ∀ i ∈ b.ins, i.args.length < 2 ^ 43)
    (ha : Reads w w.heap.size 1 aA args.length (ints args)) (hm : Reads w w.heap.size 1 mA mem.length (ints mem)) (hn : Reads w w.heap.size 1 nA ans.length (ints ans)) (hml : mem.length < 2 ^ 43) (hnl : ans.length < 2 ^ 43) :
    Ct Tryz.prog 18 #[f.val, .slice aA args.length aC, .slice mA mem.length mC, .slice nA ans.length nC] w (BegR f args mem ans) := by
  refine Ct.mk Tryz.func18 rfl rfl ?_
  refine Cd.seq ?_
  refine Cd.region ?_
  refine Ol.x bxg ?_
  rintro _ _ ⟨g4, rfl, rfl⟩
  refine Ol.p asp ?_
  refine Ol.p asi ?_
  refine Ol.nil ?_
  refine Cd.seq ?_
  refine Cd.mid (fun σ' L' => Has σ' [(1, .slice aA args.length aC), (2, .slice mA mem.length mC), (3, .slice nA ans.length nC), (4, .pointer (some ⟨g4, 0, none⟩)), (28, .bool (decide (¬ okB f args mem)))] ∧ [blk g4 (.cells f.cells.toArray 37)] = L') ?_ ?_
  · cases h3 : !decide (rightF f = 0) with
    | true =>
      have h11 : true = true := rfl
      refine Cd.region ?_
      refine Ol.p (ldw (cs := f.cells.toArray) ag_api_Func (i := 0) rfl rfl) ?_
      refine Ol.s (cl en_ir_Right (fun M w' hh => ir_Right_ct (hf.now hh) hfit)) ?_
      refine Ol.p nei ?_
      refine Ol.p mvb ?_
      refine Ol.gn h3 ?_
      refine Ol.gn h3 ?_
      refine Ol.gn h3 ?_
      refine Ol.gn h3 ?_
      refine Ol.gn h3 ?_
      refine Ol.gn h3 ?_
      refine Ol.p (pkTb h3) ?_
      refine Ol.p mvb ?_
      refine Ol.gn h11 ?_
      refine Ol.gn h11 ?_
      refine Ol.gn h11 ?_
      refine Ol.p (pkTb h11) ?_
      refine Ol.nil ?_
      refine ⟨⟨rfl, rfl, rfl, rfl, congrArg Value.bool ?_, trivial⟩, rfl⟩
      have : rightF f ≠ 0 := by simpa using h3
      simp [okB, this]
    | false =>
      have hr : rightF f = 0 := by simpa using h3
      cases h11 : !decide ((args.length : Int) = (f.params.length : Int)) with
      | true =>
        refine Cd.region ?_
        refine Ol.p (ldw (cs := f.cells.toArray) ag_api_Func (i := 0) rfl rfl) ?_
        refine Ol.s (cl en_ir_Right (fun M w' hh => ir_Right_ct (hf.now hh) hfit)) ?_
        refine Ol.p nei ?_
        refine Ol.p mvb ?_
        refine Ol.gp h3 mvs ?_
        refine Ol.gp h3 (lens sl_L_int) ?_
        refine Ol.gp h3 (fdl fd_api_Func_0) ?_
        refine Ol.gp h3 (ld (v := .slice f.pA f.params.length f.pC) one_L_int (Rd.blk (i := 0) rfl rfl)) ?_
        refine Ol.gp h3 (lens sl_L_int) ?_
        refine Ol.gp h3 nei ?_
        refine Ol.p (pkFb h3) ?_
        refine Ol.p mvb ?_
        refine Ol.gn h11 ?_
        refine Ol.gn h11 ?_
        refine Ol.gn h11 ?_
        refine Ol.p (pkTb h11) ?_
        refine Ol.nil ?_
        refine ⟨⟨rfl, rfl, rfl, rfl, congrArg Value.bool ?_, trivial⟩, rfl⟩
        have : ¬ args.length = f.params.length := by
          intro he; rw [he] at h11; simp at h11
        simp [okB, this]
      | false =>
        refine Cd.region ?_
        refine Ol.p (ldw (cs := f.cells.toArray) ag_api_Func (i := 0) rfl rfl) ?_
        refine Ol.s (cl en_ir_Right (fun M w' hh => ir_Right_ct (hf.now hh) hfit)) ?_
        refine Ol.p nei ?_
        refine Ol.p mvb ?_
        refine Ol.gp h3 mvs ?_
        refine Ol.gp h3 (lens sl_L_int) ?_
        refine Ol.gp h3 (fdl fd_api_Func_0) ?_
        refine Ol.gp h3 (ld (v := .slice f.pA f.params.length f.pC) one_L_int (Rd.blk (i := 0) rfl rfl)) ?_
        refine Ol.gp h3 (lens sl_L_int) ?_
        refine Ol.gp h3 nei ?_
        refine Ol.p (pkFb h3) ?_
        refine Ol.p mvb ?_
        refine Ol.gp h11 mvs ?_
        refine Ol.gp h11 (lens sl_L_int) ?_
        refine Ol.gp h11 gti ?_
        refine Ol.p (pkFb h11) ?_
        refine Ol.nil ?_
        refine ⟨⟨rfl, rfl, rfl, rfl, congrArg Value.bool ?_, trivial⟩, rfl⟩
        have h2 : args.length = f.params.length := by
          have : (args.length : Int) = (f.params.length : Int) := by simpa using h11
          omega
        simp only [okB, hr, h2, true_and]
        by_cases hc : mem.length ≤ 64
        · have : ¬ ((mem.length : Int) > 64) := by omega
          simp [hc]
          omega
        · simp [hc]
          omega
  rintro σ' _ ⟨hs', rfl⟩
  refine Cd.has hs' ?_
  clear hs'
  refine Cd.cond rfl (fun h => ?_) (fun h => ?_)
  · have hno : ¬ okB f args mem := of_decide_eq_true h
    refine Cd.seq ?_
    refine Cd.region ?_
    refine Ol.p asp ?_
    refine Ol.p asi ?_
    refine Ol.nil ?_
    exact Cd.ret ⟨.tuple #[.pointer none, .int .i64 2], ret2 rfl rfl rfl, _, .sub (.cons _ .slnil), .inr ⟨hno, rfl, rfl⟩⟩
  have hyes : okB f args mem := Classical.not_not.1 (of_decide_eq_false h)
  obtain ⟨hr0, hapl, hm64⟩ := hyes
  refine Cd.skip ?_
  refine Cd.nr 106 2 ?_
  refine Cd.seq ?_
  refine Cd.region ?_
  refine Ol.x mkm ?_
  rintro _ _ ⟨gM, rfl, rfl⟩
  refine Ol.p (ldw (cs := f.cells.toArray) ag_api_Func (i := 2) rfl rfl) ?_
  refine Ol.x (sp_call en_run_copied (fun M w' hh => run_copied_ct (hf.now hh) hp (hl.now hh) hal)) ?_
  rintro _ _ ⟨X, rfl, g, hgb, rfl, hX⟩
  refine Ol.p mvs ?_
  refine Ol.x (sp_call en_slices_Clone_L_int_int (fun M w' hh => slices_Clone_L_int_int_ct (xs := ints mem) (hm.now hh) (ints_one _) hml)) ?_
  rintro _ _ ⟨_, rfl, A33, c33, rfl, rfl⟩
  refine Ol.p mvs ?_
  refine Ol.x (sp_call en_slices_Clone_L_int_int (fun M w' hh => slices_Clone_L_int_int_ct (xs := ints ans) (hn.now hh) (ints_one _) hnl)) ?_
  rintro _ _ ⟨_, rfl, A35, c35, rfl, rfl⟩
  refine Ol.p (bds (cs := #[.map (some gM), .int .i64 0, .int .i64 0, .int .i64 0, .int .i64 0, .slice g.pA g.params.length g.pC, .slice g.bA g.blocks.length g.bC, .slice A33 mem.length c33, .slice A35 ans.length c35, .slice none 0 0, .int .i64 0]) bs_run_Run zr_run_Run (hf := by kernel_rfl)) ?_
  refine Ol.x bxg ?_
  rintro _ _ ⟨gR, rfl, rfl⟩
  refine Ol.p asp ?_
  refine Ol.nil ?_
  refine Cd.cap (i := 1) rfl fun hcap => ?_
  obtain ⟨y0, hy0⟩ : ∃ y0 : RLay, y0 = ⟨gR, gM, #[], 0, A33, c33, A35, c35, none, 0, [], g, row (.slice A35 ans.length c35) 3 1 ans.length (ints ans)⟩ := ⟨_, rfl⟩
  obtain ⟨s0, hs0⟩ : ∃ s0 : RSt, s0 = ⟨fun _ => none, 0, 0, 0, 0, mem, ans, [], 0⟩ := ⟨_, rfl⟩
  refine Cd.keep (L' := blk g4 (.cells f.cells.toArray 37) :: runL y0 s0) (keep_count [] fun _ x => by
    have := hX.count_eq x
    have e : runCells y0 s0 = #[.map (some gM), .int .i64 0, .int .i64 0, .int .i64 0, .int .i64 0, .slice g.pA g.params.length g.pC, .slice g.bA g.blocks.length g.bC, .slice A33 mem.length c33, .slice A35 ans.length c35, .slice none 0 0, .int .i64 0] := by rw [hy0, hs0]; rfl
    have e2 : runL y0 s0 = blk gR (.cells (runCells y0 s0) 93) :: blk gM (.map #[] 0) :: row (.slice A33 mem.length c33) 3 1 mem.length (ints mem) :: row (.slice A35 ans.length c35) 3 1 ans.length (ints ans) :: row (.slice none 0 0) 106 2 0 [] :: funRes g := by rw [hy0, hs0]; rfl
    rw [e2, e]
    simp only [List.count_append, List.count_cons, List.count_nil, List.cons_append, List.nil_append, List.append_nil]
    omega) ?_
  refine Cd.seq ?_
  refine Cd.seq ?_
  refine Cd.region ?_
  refine Ol.p (fdl fd_api_Func_0) ?_
  refine Ol.p (ld (v := .slice f.pA f.params.length f.pC) one_L_int (Rd.blk (i := 0) rfl rfl)) ?_
  refine Ol.p (lens sl_L_int) ?_
  refine Ol.p mvi ?_
  refine Ol.nil ?_
  refine Cd.block ?_   -- 0
  refine Cd.loop (fun m σ L => ∃ (k : Nat) (es : Array MapEntry) (cl : Nat), m = f.params.length - k ∧ k ≤ f.params.length ∧ AllI es.toList ∧ (∀ q, mget es.toList q = (begV ((f.params.zip args).take k) q).map fun n => .int .i64 n) ∧ Has σ [(1, .slice aA args.length aC), (10, .pointer (some ⟨gR, 0, none⟩)), (39, .slice f.pA f.params.length f.pC), (40, .int .i64 f.params.length), (41, .int .i64 k)] ∧ blk g4 (.cells f.cells.toArray 37) :: runL { y0 with es := es, cl := cl } s0 = L) (n := f.params.length) ⟨0, #[], 0, rfl, Nat.zero_le _, fun e he => by simp at he, fun q => rfl, ⟨rfl, rfl, rfl, rfl, rfl, trivial⟩, by rw [hy0]⟩ ?_
  rintro _ σ L ⟨k, es, cl, rfl, hk, hall, hget, hs, rfl⟩
  refine Cd.has hs ?_
  clear hs
  refine Cd.seq ?_
  refine Cd.region ?_
  refine Ol.p lsi ?_
  refine Ol.nil ?_
  refine Cd.seq ?_
  refine Cd.cond rfl (fun h => ?_) (fun h => ?_)   -- $42
  · have hlt : k < f.params.length := by
      simp only [decide_eq_true_eq] at h; omega
    obtain ⟨p, hpk⟩ : ∃ p, f.params[k]? = some p := ⟨_, List.getElem?_eq_getElem hlt⟩
    obtain ⟨a, hak⟩ : ∃ a, args[k]? = some a := ⟨_, List.getElem?_eq_getElem (by omega)⟩
    have hz : (f.params.zip args)[k]? = some (p, a) := List.getElem?_zip_eq_some.2 ⟨hpk, hak⟩
    refine Cd.skip ?_
    refine Cd.seq ?_
    refine Cd.block ?_   -- 1
    refine Cd.seq ?_
    refine Cd.region ?_
    refine Ol.p mvi ?_
    refine Ol.p (ixn1 (ix := k) sl_L_int (Som.slc hf.params (by omega))) ?_
    refine Ol.p (ld one_int (Rd.slc hf.params (ints_at hpk))) ?_
    refine Ol.p asi ?_
    refine Ol.p asi ?_
    refine Ol.nil ?_
    subst hy0
    refine Cd.draw mixed 9 (fun _ => none) (fun _ => []) (by kernel_rfl) (fun _ _ h => by cases h) (fun u hu => ?_)
    refine Wk.p mvp ?_
    refine Wk.p nlc ?_
    refine Wk.p (fdl fd_run_Run_0) ?_
    refine Wk.p (ld (v := .map (some gM)) one_run_vars (Rd.blk (i := 1) rfl rfl)) ?_
    refine Wk.p mvi ?_
    refine Wk.p mvs ?_
    refine Wk.p mvi ?_
    refine Wk.p (ixn1 (ix := k) sl_L_int (Som.slc ha (by omega))) ?_
    refine Wk.p (ld one_int (Rd.slc ha (ints_at hak))) ?_
    refine Wk.nil ?_
    refine Ol.x (upm (v := .int .i64 a) mt_run_vars (i := 2) rfl hall rfl) ?_
    rintro _ _ ⟨es', cl', rfl, hall', hget'⟩
    refine Ol.nil ?_
    refine Cd.region ?_
    refine Ol.p addi ?_
    refine Ol.p mvi ?_
    refine Ol.nil ?_
    refine ⟨f.params.length - (k + 1), by omega, k + 1, es', cl', rfl, by omega, hall', fun q => ?_, ⟨rfl, rfl, rfl, rfl, rfl, trivial⟩, rfl⟩
    rw [hget', hget, take_snoc_ hz, begV_snoc]
    unfold updI
    by_cases hq : q = p
    · simp [hq]
    · simp [hq]
  have hke : k = f.params.length := by
    simp only [decide_eq_false_iff_not] at h; omega
  refine Cd.exit (id := 0) ?_
  refine Cd.seq ?_
  refine Cd.region ?_
  refine Ol.p mvp ?_
  refine Ol.p asp ?_
  refine Ol.p asi ?_
  refine Ol.nil ?_
  refine Cd.ret ⟨.tuple #[.pointer (some ⟨gR, 0, none⟩), .int .i64 0], ret2 rfl rfl rfl, _, .sub (.cons _ (List.Sublist.refl _)), .inl ⟨⟨hr0, hapl, hm64⟩, { y0 with es := es, cl := cl }, by rw [hy0]; exact hgb, fun w1 B1 => ⟨hall, fun q => ?_, by rw [hy0]; rfl, ?_, ?_⟩, by rw [hy0], by rw [hs0]; rfl⟩⟩
  · rw [hget, List.take_of_length_le (by rw [hke, List.length_zip]; omega)]
    rfl
  · rw [hy0]
    exact RdS.row (i := 0) rfl
  · rw [hy0]
    exact hcap
end
end Go.Proofs.YtjenaenakopicaaGreat

/- The package run: what a run of a right function keeps to: plain laws. -/
namespace Go.Proofs.YtjenaenakopicaaGreat
set_option linter.unusedVariables false
open Go Go.RowKit

/-- A function whose blocks end whole, in blocks, with lists that are not endless. -/
structure Fine (g : RFun) : Prop where
  blk : 0 < g.blocks.length
  term : ∀ b ∈ g.blocks, isTerm b.term = true ∧ ∀ n ∈ toL b.term, 1 ≤ n ∧ n < (g.blocks.length : Int)
  ins : ∀ b ∈ g.blocks, b.ins.length ≤ 64
  args : ∀ b ∈ g.blocks, ∀ i ∈ b.ins, i.args.length < 2 ^ 43
theorem Fine.of {f : RFun} (h : rightF f = 0) (ha : ∀ b ∈ f.blocks, ∀ i ∈ b.ins, i.args.length < 2 ^ 43) : Fine f := by
  obtain ⟨h1, h2, _, h4, h5⟩ := rightF_iff.1 h
  obtain ⟨h6, h7, h8, h9⟩ := long_parts h1
  refine ⟨h6, fun b hb => ⟨?_, fun n hn => ?_⟩, h9, ha⟩
  · unfold wholeF at h2
    simp only [Bool.and_eq_true, List.all_eq_true] at h2
    have := h2.2 b hb
    unfold wholeB at this
    simp only [Bool.and_eq_true] at this
    exact this.1
  · have h3' := (rightF_iff.1 h).2.2.1
    unfold okEs at h3'
    simp only [List.all_eq_true, Bool.and_eq_true, decide_eq_true_eq] at h3'
    have := h3' b.term (List.mem_map_of_mem hb) n hn
    simpa [RFun.terms] using this
theorem Fine.bare {f g : RFun} (h : Fine f) (e : g.bare = f.bare) : Fine g := by
  have hbl : g.blocks.map RBlk.bare = f.blocks.map RBlk.bare := congrArg RFun.blocks e
  have hlen : g.blocks.length = f.blocks.length := by
    have := congrArg List.length hbl
    simpa using this
  have key : ∀ b ∈ g.blocks, ∃ b' ∈ f.blocks, b'.bare = b.bare := fun b hb => by
    have : b.bare ∈ f.blocks.map RBlk.bare := by rw [← hbl]; exact List.mem_map_of_mem hb
    obtain ⟨b', h1, h2⟩ := List.mem_map.1 this
    exact ⟨b', h1, h2⟩
  refine ⟨by rw [hlen]; exact h.blk, fun b hb => ?_, fun b hb => ?_, fun b hb i hi => ?_⟩
  · obtain ⟨b', h1, h2⟩ := key b hb
    have ht : b'.term = b.term := (congrArg RBlk.term h2 : b'.bare.term = b.bare.term)
    rw [← ht, hlen]
    exact h.term b' h1
  · obtain ⟨b', h1, h2⟩ := key b hb
    have hl : b'.ins.length = b.ins.length := by
      have := congrArg (fun x => x.ins.length) h2
      simpa [RBlk.bare] using this
    rw [← hl]
    exact h.ins b' h1
  · obtain ⟨b', h1, h2⟩ := key b hb
    have hl : b'.ins.map RIns.bare = b.ins.map RIns.bare := (congrArg RBlk.ins h2 : b'.bare.ins = b.bare.ins)
    have : i.bare ∈ b'.ins.map RIns.bare := by rw [hl]; exact List.mem_map_of_mem hi
    obtain ⟨i', h3, h4⟩ := List.mem_map.1 this
    have ha : i'.args = i.args := (congrArg RIns.args h4 : i'.bare.args = i.bare.args)
    rw [← ha]
    exact h.args b' h1 i' h3
/-- A run as it may be after so many steps. -/
structure Runs (g : RFun) (s : RSt) (n : Nat) : Prop where
  stand : s.e = 0 → ∃ b, g.blocks[s.b]? = some b ∧ s.i ≤ b.ins.length
  steps : s.steps ≤ n
  calls : s.calls.length ≤ n
  args : ∀ c ∈ s.calls, c.2.length < 2 ^ 43
  mem : s.mem.length ≤ 64
theorem insV_keeps (s : RSt) (i : RIns) : (insV s i).1.e = s.e ∧ (insV s i).1.steps = s.steps ∧ (insV s i).1.mem.length = s.mem.length ∧ ((insV s i).1.calls = s.calls ∨ (insV s i).1.calls = s.calls ++ [(i.callee, i.args.map s.get)]) := by
  unfold insV
  split
  · exact ⟨rfl, rfl, rfl, .inl rfl⟩
  split
  · exact ⟨rfl, rfl, rfl, .inl rfl⟩
  split
  · unfold callF; split <;> exact ⟨rfl, rfl, rfl, .inr rfl⟩
  split
  · unfold memF
    split
    · exact ⟨rfl, rfl, rfl, .inl rfl⟩
    split
    · exact ⟨rfl, rfl, by simp, .inl rfl⟩
    exact ⟨rfl, rfl, rfl, .inl rfl⟩
  exact ⟨rfl, rfl, rfl, .inl rfl⟩
theorem insF_keeps (s : RSt) (i : RIns) : (insF s i).1.e = s.e ∧ (insF s i).1.steps = s.steps ∧ (insF s i).1.mem.length = s.mem.length ∧ ((insF s i).1.calls = s.calls ∨ (insF s i).1.calls = s.calls ++ [(i.callee, i.args.map s.get)]) := by
  have h := insV_keeps s i
  unfold insF
  split
  · show (insS (insV s i).1 i (insV s i).2.1).e = _ ∧ (insS (insV s i).1 i (insV s i).2.1).steps = _ ∧ (insS (insV s i).1 i (insV s i).2.1).mem.length = _ ∧ ((insS (insV s i).1 i (insV s i).2.1).calls = _ ∨ (insS (insV s i).1 i (insV s i).2.1).calls = _)
    unfold insS
    split <;> exact h
  · exact h
theorem stepB_keeps (s : RSt) (b : RBlk) : (stepB s b).1.e = s.e ∧ (stepB s b).1.steps = s.steps + 1 ∧ (stepB s b).1.mem.length = s.mem.length ∧ ((stepB s b).1.calls = s.calls ∨ ∃ i ∈ b.ins, (stepB s b).1.calls = s.calls ++ [(i.callee, i.args.map s.get)]) := by
  unfold stepB
  split
  · rename_i i hi
    have h := insF_keeps (tick s) i
    refine ⟨h.1, h.2.1, h.2.2.1, ?_⟩
    rcases h.2.2.2 with h | h
    · exact .inl h
    · exact .inr ⟨i, List.mem_of_getElem? hi, h⟩
  · exact ⟨rfl, rfl, rfl, .inl rfl⟩
theorem termF_spot {s : RSt} {t : Tm} {bb ii : Int} (ht : isTerm t = true) (h : termF s t = .spot bb ii) : ii = 0 ∧ bb ∈ toL t := by
  unfold termF at h
  split at h
  · cases h
  split at h
  · cases h
  rename_i h3 h4
  have hk : t.kind = 1 ∨ t.kind = 2 := by
    unfold isTerm at ht
    by_cases h1 : t.kind = 1
    · exact .inl h1
    by_cases h2 : t.kind = 2
    · exact .inr h2
    simp [h1, h2, h3, h4] at ht
  split at h
  · rename_i hc
    injection h with e1 e2
    refine ⟨e2.symm, ?_⟩
    unfold toL
    rw [ht, ← e1]
    simp [hc.1]
  · injection h with e1 e2
    refine ⟨e2.symm, ?_⟩
    unfold toL
    rw [ht, ← e1]
    rcases hk with hk | hk <;> simp [hk]
theorem insF_spot {s : RSt} {i : RIns} {bb ii : Int} (h : (insF s i).2 = .spot bb ii) : bb = s.b ∧ ii = (s.i : Int) + 1 := by
  have hv := insV_spot s i
  unfold insF at h
  split at h
  · injection h with e1 e2
    rw [← e1, ← e2, hv.1, hv.2]
    exact ⟨rfl, rfl⟩
  · cases h
theorem insF_done {s : RSt} {i : RIns} {e v : Int} (h : (insF s i).2 = .done e v) : e = 2 := by
  unfold insF at h
  split at h
  · cases h
  · injection h with e1; exact e1.symm
theorem termF_done {s : RSt} {t : Tm} {e v : Int} (h : termF s t = .done e v) : e = 1 ∨ e = 2 := by
  unfold termF at h
  split at h
  · injection h with e1; exact .inl e1.symm
  split at h
  · injection h with e1; exact .inr e1.symm
  split at h <;> cases h
theorem stepB_spot {g : RFun} {s : RSt} {b : RBlk} (hF : Fine g) (hb : g.blocks[s.b]? = some b) (hi : s.i ≤ b.ins.length) {bb ii : Int} (h : (stepB s b).2 = .spot bb ii) : 0 ≤ bb ∧ 0 ≤ ii ∧ ∃ b', g.blocks[bb.toNat]? = some b' ∧ ii.toNat ≤ b'.ins.length := by
  unfold stepB at h
  split at h
  · rename_i i hgi
    obtain ⟨e1, e2⟩ := insF_spot h
    have hlt : s.i < b.ins.length := (List.getElem?_eq_some_iff.1 hgi).1
    have e3 : (tick s).b = s.b := rfl
    have e4 : (tick s).i = s.i := rfl
    rw [e3] at e1
    rw [e4] at e2
    refine ⟨by omega, by omega, b, ?_, by omega⟩
    rw [show bb.toNat = s.b by omega]
    exact hb
  · have hbm := List.mem_of_getElem? hb
    obtain ⟨e1, e2⟩ := termF_spot (hF.term b hbm).1 h
    have := (hF.term b hbm).2 bb e2
    have hlt : bb.toNat < g.blocks.length := by omega
    exact ⟨by omega, by omega, _, List.getElem?_eq_getElem hlt, by rw [e1]; exact Nat.zero_le _⟩
theorem stepB_done {s : RSt} {b : RBlk} {e v : Int} (h : (stepB s b).2 = .done e v) : e = 1 ∨ e = 2 := by
  unfold stepB at h
  split at h
  · exact .inr (insF_done h)
  · exact termF_done h
theorem Runs.step {g : RFun} {s : RSt} {n : Nat} (hF : Fine g) (h : Runs g s n) (he : s.e = 0) : Runs g (stepR g s) (n + 1) := by
  obtain ⟨b, hb, hi⟩ := h.stand he
  have hS : stepR g s = nxS (stepB s b).1 (stepB s b).2 := by unfold stepR; rw [hb]
  obtain ⟨k1, k2, k3, k4⟩ := stepB_keeps s b
  have hc : (stepB s b).1.calls.length ≤ n + 1 ∧ ∀ c ∈ (stepB s b).1.calls, c.2.length < 2 ^ 43 := by
    rcases k4 with k4 | ⟨i, him, k4⟩
    · rw [k4]; exact ⟨by have := h.calls; omega, h.args⟩
    · rw [k4]
      refine ⟨by have := h.calls; simp; omega, fun c hc => ?_⟩
      rcases List.mem_append.1 hc with hc | hc
      · exact h.args c hc
      · have := List.mem_singleton.1 hc
        rw [this]
        simpa using hF.args b (List.mem_of_getElem? hb) i him
  have h1 := h.steps
  have h2 := h.mem
  rw [hS]
  cases hx : (stepB s b).2 with
  | spot bb ii =>
    obtain ⟨_, _, h3⟩ := stepB_spot hF hb hi hx
    exact ⟨fun _ => h3, by show (stepB s b).1.steps ≤ _; omega, hc.1, hc.2, by show (stepB s b).1.mem.length ≤ _; omega⟩
  | done e v =>
    refine ⟨fun h0 => ?_, by show (stepB s b).1.steps ≤ _; omega, hc.1, hc.2, by show (stepB s b).1.mem.length ≤ _; omega⟩
    have h0' : e = 0 := h0
    rcases stepB_done hx with h | h <;> omega
/-- A run goes on so many steps, while it stands. -/
def goS (g : RFun) (s : RSt) : Nat → RSt
  | 0 => s
  | n + 1 => if s.e = 0 then goS g (stepR g s) n else s
theorem goS_end {g : RFun} {s : RSt} (h : s.e ≠ 0) (n : Nat) : goS g s n = s := by
  cases n with
  | zero => rfl
  | succ n => exact if_neg h
theorem Runs.go {g : RFun} (hF : Fine g) : ∀ (n : Nat) {s : RSt} {k : Nat}, Runs g s k → Runs g (goS g s n) (k + n)
  | 0, s, k, h => h
  | n + 1, s, k, h => by
    unfold goS
    split
    · rename_i he
      have := Runs.go hF n (h.step hF he)
      rwa [Nat.add_right_comm, Nat.add_assoc] at this
    · exact ⟨h.stand, by have := h.steps; omega, by have := h.calls; omega, h.args, h.mem⟩
theorem stepB_bare (s : RSt) (b : RBlk) : stepB s b.bare = stepB s b := by
  unfold stepB RBlk.bare
  simp only [List.getElem?_map]
  cases b.ins[s.i]? <;> rfl
theorem stepR_bare (g : RFun) (s : RSt) : stepR g.bare s = stepR g s := by
  unfold stepR RFun.bare
  simp only [List.getElem?_map]
  cases g.blocks[s.b]? with
  | none => rfl
  | some b => show nxS (stepB s b.bare).1 (stepB s b.bare).2 = _; rw [stepB_bare]
theorem goS_bare (g : RFun) : ∀ (n : Nat) (s : RSt), goS g.bare s n = goS g s n
  | 0, s => rfl
  | n + 1, s => by
    unfold goS
    rw [stepR_bare, goS_bare g n]
theorem goS_same {f g : RFun} (e : g.bare = f.bare) (s : RSt) (n : Nat) : goS g s n = goS f s n := by rw [← goS_bare g, e, goS_bare f]
theorem Runs.beg {f g : RFun} {args mem ans : List Int} (hF : Fine g) (hm : mem.length ≤ 64) : Runs g (begS f args mem ans) 0 := by
  refine ⟨fun _ => ?_, Nat.le_refl _, Nat.le_refl _, fun c hc => absurd hc (List.not_mem_nil), hm⟩
  exact ⟨_, List.getElem?_eq_getElem hF.blk, Nat.zero_le _⟩
end Go.Proofs.YtjenaenakopicaaGreat

/- The package run: a run at once, walked. -/
namespace Go.Proofs.YtjenaenakopicaaGreat
set_option linter.unusedVariables false
open Go Go.RowKit
set_option maxRecDepth 100000

section
theorem run_Step_end_cm {w0 : World} {B : Nat} {y : RLay} {s : RSt} (he : s.e ≠ 0) :
    Cm Tryz.prog 24 #[.pointer (some ⟨y.gR, 0, none⟩)] w0 B (runL y s) (fun v L => v = .bool false ∧ L = runL y s) := by
  refine Cm.mk Tryz.func24 rfl rfl fun M => ?_
  refine Cd.seq ?_
  refine Cd.region ?_
  refine Ol.p asb ?_
  refine Ol.nil ?_
  refine Cd.seq ?_
  refine Cd.seq ?_
  have h2 : (some (⟨y.gR, 0, none⟩ : Addr)).isNone = false := rfl
  have h9 : (some y.gM).isNone = false := rfl
  refine Cd.region ?_
  refine Ol.p mvp ?_
  refine Ol.p (epn pt_P_run_Run) ?_
  refine Ol.p mvb ?_
  refine Ol.gp h2 mvp ?_
  refine Ol.gp h2 nlc ?_
  refine Ol.gp h2 (fdl fd_run_Run_0) ?_
  refine Ol.gp h2 (ld (v := .map (some y.gM)) one_run_vars (Rd.blk (i := 0) rfl rfl)) ?_
  refine Ol.gp h2 (emn mp_run_vars) ?_
  refine Ol.p (pkFb h2) ?_
  refine Ol.p mvb ?_
  refine Ol.gp h9 mvp ?_
  refine Ol.gp h9 nlc ?_
  refine Ol.gp h9 (fdl fd_run_Run_2) ?_
  refine Ol.gp h9 (fdl fd_run_done_0) ?_
  refine Ol.gp h9 (ld (v := .int .i64 s.e) one_api_EndKind (Rd.blk (i := 0) rfl rfl)) ?_
  refine Ol.gp h9 nei ?_
  refine Ol.p (pkFb h9) ?_
  refine Ol.nil ?_
  refine Cd.cond rfl (fun h => ?_) (fun h => absurd (by simpa using h) he)   -- $23
  refine Cd.seq ?_
  refine Cd.region ?_
  refine Ol.p asb ?_
  refine Ol.nil ?_
  exact Cd.ret ⟨.bool false, ret1 rfl rfl, _, .all, rfl, rfl⟩
end
section
def noRes : Value := .agg #[.int .i64 0, .int .i64 0, .slice none 0 0, .slice none 0 0, .int .i64 0]
def GoR (f : RFun) (args mem ans : List Int) (n : Int) : Value → List Res → Prop := fun v R =>
  (okB f args mem ∧ n ≤ 20000 ∧ ∃ z : RRes, z.of (goS f (begS f args mem ans) n.toNat) ∧ v = .tuple #[.agg z.cells.toArray, .int .i64 0] ∧ R.Perm z.res) ∨
  (¬ okB f args mem ∧ v = .tuple #[noRes, .int .i64 2] ∧ R = []) ∨ (okB f args mem ∧ 20000 < n ∧ v = .tuple #[noRes, .int .i64 3] ∧ R = [])
set_option maxHeartbeats 4000000 in
theorem run_Go_ct {w : World} {f : RFun} {aA mA nA : Option Addr} {aC mC nC : Nat} {args mem ans : List Int} {n : Int} (hf : FunAt w w.heap.size f) (hfit : Fit f) (hp : f.params.length < 2 ^ 43) (hl : BlksIn w w.heap.size f.bA f.blocks) (hal : ∀ b ∈ f.blocks, ∀ i ∈ b.ins, i.args.length < 2 ^ 43)
    (ha : Reads w w.heap.size 1 aA args.length (ints args)) (hm : Reads w w.heap.size 1 mA mem.length (ints mem)) (hn : Reads w w.heap.size 1 nA ans.length (ints ans)) (hml : mem.length < 2 ^ 43) (hnl : ans.length < 2 ^ 43) :
    Ct Tryz.prog 15 #[f.val, .slice aA args.length aC, .slice mA mem.length mC, .slice nA ans.length nC, .int .i64 n] w (GoR f args mem ans n) := by
  refine Ct.mk Tryz.func15 rfl rfl ?_
  refine Cd.seq ?_
  refine Cd.region ?_
  refine Ol.x bxg ?_
  rintro _ _ ⟨g5, rfl, rfl⟩
  refine Ol.x (alc zr_run_Result) ?_
  rintro _ _ ⟨g10, rfl, rfl⟩
  refine Ol.p asi ?_
  refine Ol.nil ?_
  refine Cd.seq ?_
  refine Cd.region ?_
  refine Ol.p (ldw (cs := f.cells.toArray) ag_api_Func (i := 1) rfl rfl) ?_
  refine Ol.p mvs ?_
  refine Ol.p mvs ?_
  refine Ol.p mvs ?_
  refine Ol.x (sp_call en_run_Begin (fun M w' hh => run_Begin_ct (args := args) (mem := mem) (ans := ans) (hf.now hh) hfit hp (hl.now hh) hal (ha.now hh) (hm.now hh) (hn.now hh) hml hnl)) ?_
  rintro _ _ ⟨R, rfl, hR⟩
  rcases hR with ⟨hok, y, hgb, hro, rfl, rfl⟩ | ⟨hno, rfl, rfl⟩
  rotate_left
  · skip
    refine Ol.p mvt ?_
    refine Ol.p extv ?_
    refine Ol.p extv ?_
    refine Ol.p asp ?_
    refine Ol.p asi ?_
    refine Ol.nil ?_
    refine Cd.seq ?_
    refine Cd.block ?_   -- 0
    refine Cd.seq ?_
    refine Cd.region ?_
    refine Ol.p mvi ?_
    refine Ol.p nei ?_
    refine Ol.p asb ?_
    refine Ol.nil ?_
    refine Cd.cond rfl (fun h => ?_) (fun h => nomatch h)   -- $21
    refine Cd.seq ?_
    refine Cd.region ?_
    refine Ol.p (ldw (cs := #[.int .i64 0, .int .i64 0, .slice none 0 0, .slice none 0 0, .int .i64 0]) ag_run_Result (i := 0) rfl rfl) ?_
    refine Ol.p mvi ?_
    refine Ol.s (stw (vs := #[.int .i64 0, .int .i64 0, .slice none 0 0, .slice none 0 0, .int .i64 0]) sz_run_Result rfl (by intro u hu; simp at hu; rcases hu with rfl | rfl | rfl <;> rfl) (i := 0) rfl rfl) ?_
    refine Ol.p asi ?_
    refine Ol.nil ?_
    exact Cd.ret ⟨.tuple #[noRes, .int .i64 2], retct rfl ag_run_Result rfl rfl (i := 0) rfl rfl, [], Keep.nil, .inr (.inl ⟨hno, rfl, rfl⟩)⟩
  refine Ol.p mvt ?_
  refine Ol.p extv ?_
  refine Ol.p extv ?_
  refine Ol.p asp ?_
  refine Ol.p asi ?_
  refine Ol.nil ?_
  refine Cd.keep Keep.comm ?_
  refine Cd.seq ?_
  refine Cd.block ?_   -- 0
  refine Cd.seq ?_
  refine Cd.region ?_
  refine Ol.p mvi ?_
  refine Ol.p nei ?_
  refine Ol.p asb ?_
  refine Ol.nil ?_
  refine Cd.cond rfl (fun h => nomatch h) (fun h => ?_)   -- $21
  refine Cd.seq ?_
  refine Cd.region ?_
  refine Ol.p mvi ?_
  refine Ol.p gti ?_
  refine Ol.p asb ?_
  refine Ol.nil ?_
  refine Cd.cond rfl (fun h => ?_) (fun h => ?_)   -- $26
  · have hlong : 20000 < n := of_decide_eq_true h
    refine Cd.seq ?_
    refine Cd.region ?_
    refine Ol.p (ldw (cs := #[.int .i64 0, .int .i64 0, .slice none 0 0, .slice none 0 0, .int .i64 0]) ag_run_Result (i := 0) rfl rfl) ?_
    refine Ol.s (stw (vs := #[.int .i64 0, .int .i64 0, .slice none 0 0, .slice none 0 0, .int .i64 0]) sz_run_Result rfl (by intro u hu; simp at hu; rcases hu with rfl | rfl | rfl <;> rfl) (i := 0) rfl rfl) ?_
    refine Ol.p asi ?_
    refine Ol.nil ?_
    exact Cd.ret ⟨.tuple #[noRes, .int .i64 3], retct rfl ag_run_Result rfl rfl (i := 0) rfl rfl, [], Keep.nil, .inr (.inr ⟨hok, hlong, rfl, rfl⟩)⟩
  have hn20 : n ≤ 20000 := by
    have : ¬ 20000 < n := of_decide_eq_false h
    omega
  have hF : Fine y.g := (Fine.of hok.1 hal).bare hgb
  have hRuns : Runs y.g (begS f args mem ans) 0 := Runs.beg hF hok.2.2
  refine Cd.skip ?_
  refine Cd.mid (fun σ' L' => ∃ (y' : RLay) (s : RSt), y'.gR = y.gR ∧ y'.g = y.g ∧ RunOk w w.heap.size y' s ∧ Runs y.g s 20000 ∧ s = goS y.g (begS f args mem ans) n.toNat ∧ Has σ' [(10, .pointer (some ⟨g10, 0, none⟩)), (12, .pointer (some ⟨y.gR, 0, none⟩))] ∧ [blk g10 (.cells #[.int .i64 0, .int .i64 0, .slice none 0 0, .slice none 0 0, .int .i64 0] 46), blk g5 (.cells f.cells.toArray 37)] ++ runL y' s = L') ?_ ?_
  · refine Cd.seq ?_
    refine Cd.region ?_
    refine Ol.p mvi ?_
    refine Ol.p mvi ?_
    refine Ol.nil ?_
    refine Cd.block ?_   -- 1
    refine Cd.loop (fun m σ L => ∃ (k : Nat) (y' : RLay) (s : RSt), m = n.toNat - k ∧ k ≤ n.toNat ∧ y'.gR = y.gR ∧ y'.g = y.g ∧ RunOk w w.heap.size y' s ∧ Runs y.g s k ∧ goS y.g s (n.toNat - k) = goS y.g (begS f args mem ans) n.toNat ∧ Has σ [(10, .pointer (some ⟨g10, 0, none⟩)), (12, .pointer (some ⟨y.gR, 0, none⟩)), (30, .int .i64 n), (31, .int .i64 k)] ∧ [blk g10 (.cells #[.int .i64 0, .int .i64 0, .slice none 0 0, .slice none 0 0, .int .i64 0] 46), blk g5 (.cells f.cells.toArray 37)] ++ runL y' s = L) (n := n.toNat) ⟨0, y, begS f args mem ans, rfl, Nat.zero_le _, rfl, rfl, hro _ _, hRuns, rfl, ⟨rfl, rfl, rfl, rfl, trivial⟩, rfl⟩ ?_
    rintro _ σ L ⟨k, y', s, rfl, hk, hg1, hg2, hro', hR', hgo, hs, rfl⟩
    rw [← hg1] at hs
    refine Cd.has hs ?_
    clear hs
    have hst := hR'.steps
    have hcl := hR'.calls
    have hml' := hR'.mem
    refine Cd.seq ?_
    refine Cd.region ?_
    refine Ol.p lsi ?_
    refine Ol.nil ?_
    refine Cd.seq ?_
    refine Cd.cond rfl (fun h => ?_) (fun h => ?_)   -- $32
    · have hlt : k < n.toNat := by
        have : (k : Int) < n := of_decide_eq_true h
        omega
      refine Cd.skip ?_
      refine Cd.seq ?_
      refine Cd.block ?_   -- 2
      refine Cd.seq ?_
      by_cases he : s.e = 0
      · obtain ⟨b, hb, hi⟩ := hR'.stand he
        have hbm := List.mem_of_getElem? hb
        have hi64 := hF.ins b hbm
        refine Cd.region ?_
        refine Ol.p mvp ?_
        refine Ol.x (sp_callm (vs := [.pointer (some ⟨y'.gR, 0, none⟩)]) (Lin := runL y' s) (L2 := [blk g10 (.cells #[.int .i64 0, .int .i64 0, .slice none 0 0, .slice none 0 0, .int .i64 0] 46), blk g5 (.cells f.cells.toArray 37)]) (R := RunTo w w.heap.size y' (stepR y'.g s) (.bool true)) en_P_run_Run_Step (List.perm_append_comm (l₁ := [_, _])) (run_Step_cm hro' he (hg2 ▸ hb) hi (by omega) (fun i hi => Nat.lt_trans (hF.args b hbm i hi) (by decide)) (fun bb ii hx => by obtain ⟨h1, h2, _⟩ := stepB_spot hF hb hi hx; exact ⟨h1, h2⟩) (by omega) (by omega) (by omega))) ?_
        rintro _ _ ⟨_, rfl, rfl, y2, hg3, hg4, hro2, rfl⟩
        refine Ol.keep Keep.comm ?_
        refine Ol.p noti ?_
        refine Ol.nil ?_
        refine Cd.cond rfl (fun h => nomatch h) (fun h => ?_)   -- $35
        refine Cd.skip ?_
        refine Cd.region ?_
        refine Ol.p addi ?_
        refine Ol.p mvi ?_
        refine Ol.nil ?_
        rw [hg2] at hro2
        refine ⟨n.toNat - (k + 1), by omega, k + 1, y2, stepR y.g s, rfl, by omega, hg3.trans hg1, hg4.trans hg2, hro2, hR'.step hF he, ?_, ⟨rfl, by rw [← hg1]; rfl, rfl, rfl, trivial⟩, by rw [hg2]⟩
        rw [← hgo, show n.toNat - k = (n.toNat - (k + 1)) + 1 by omega]
        show _ = if s.e = 0 then _ else _
        rw [if_pos he]
      · skip
        refine Cd.region ?_
        refine Ol.p mvp ?_
        refine Ol.x (sp_callm (vs := [.pointer (some ⟨y'.gR, 0, none⟩)]) (Lin := runL y' s) (L2 := [blk g10 (.cells #[.int .i64 0, .int .i64 0, .slice none 0 0, .slice none 0 0, .int .i64 0] 46), blk g5 (.cells f.cells.toArray 37)]) (R := fun v L => v = .bool false ∧ L = runL y' s) en_P_run_Run_Step (List.perm_append_comm (l₁ := [_, _])) (run_Step_end_cm he)) ?_
        rintro _ _ ⟨_, rfl, rfl, rfl⟩
        refine Ol.keep Keep.comm ?_
        refine Ol.p noti ?_
        refine Ol.nil ?_
        refine Cd.cond rfl (fun h => ?_) (fun h => nomatch h)   -- $35
        refine Cd.exit (id := 1) ?_
        exact ⟨y', s, hg1, hg2, hro', ⟨hR'.stand, by omega, by omega, hR'.args, hR'.mem⟩, by rw [← hgo, goS_end he], ⟨rfl, by rw [← hg1]; rfl, trivial⟩, rfl⟩
    have hke : n.toNat - k = 0 := by
      have : ¬ (k : Int) < n := of_decide_eq_false h
      omega
    refine Cd.exit (id := 1) ?_
    exact ⟨y', s, hg1, hg2, hro', ⟨hR'.stand, by omega, by omega, hR'.args, hR'.mem⟩, by rw [← hgo, hke]; rfl, ⟨rfl, by rw [← hg1]; rfl, trivial⟩, rfl⟩
  rintro σ' _ ⟨y', s, hg1, hg2, hro', hR', hgo, hs', rfl⟩
  rw [← hg1] at hs'
  refine Cd.has hs' ?_
  have hst := hR'.steps
  have hcl := hR'.calls
  have hml' := hR'.mem
  have hra : ∀ r ∈ y'.recs, r.args.length < 2 ^ 43 := fun r hr => hR'.args (r.callee, r.args) (by rw [hro'.calls]; exact List.mem_map_of_mem hr)
  refine Cd.seq ?_
  refine Cd.region ?_
  refine Ol.p mvp ?_
  refine Ol.x (sp_callm (vs := [.pointer (some ⟨y'.gR, 0, none⟩)]) (Lin := runL y' s) (L2 := [blk g10 (.cells #[.int .i64 0, .int .i64 0, .slice none 0 0, .slice none 0 0, .int .i64 0] 46), blk g5 (.cells f.cells.toArray 37)]) (R := fun v L => ∃ z : RRes, z.of s ∧ v = .agg z.cells.toArray ∧ L.Perm (z.res ++ runL y' s)) en_P_run_Run_Result (List.perm_append_comm (l₁ := [_, _])) (run_Result_cm hro' (by omega) (by omega) hra)) ?_
  rintro _ _ ⟨T, rfl, z, hz, rfl, hT⟩
  refine Ol.keep (L' := [blk g10 (.cells #[.int .i64 0, .int .i64 0, .slice none 0 0, .slice none 0 0, .int .i64 0] 46), blk g5 (.cells f.cells.toArray 37)] ++ z.res) (keep_count (runL y' s) fun _ x => by
    have := hT.count_eq x
    simp only [List.count_append] at this ⊢
    omega) ?_
  refine Ol.s (stw (vs := z.cells.toArray) sz_run_Result rfl (by intro u hu; simp [RRes.cells] at hu; rcases hu with rfl | rfl | rfl | rfl | rfl <;> rfl) (i := 0) rfl rfl) ?_
  refine Ol.p asi ?_
  refine Ol.nil ?_
  refine Cd.ret ⟨.tuple #[.agg z.cells.toArray, .int .i64 0], retct rfl ag_run_Result rfl rfl (i := 0) rfl rfl, z.res, .sub (.cons _ (.cons _ (List.Sublist.refl _))), .inl ⟨hok, hn20, z, ?_, rfl, .refl _⟩⟩
  · rw [← goS_same hgb, ← hgo]
    exact hz
end
end Go.Proofs.YtjenaenakopicaaGreat

/- Reference 08: where a run lies; set, trap, place, walked. -/
namespace Go.Proofs.YtjenaenakopicaaGreat
set_option linter.unusedVariables false
set_option linter.unusedSimpArgs false
open Go Go.RowKit
set_option maxRecDepth 100000
/-- The cells of the reference's run, told by their places: the function's header, a state, the three lists' headers. -/
def wV (F0 F1 m a c : Value) (s : RSt) : Nat → Value := fun j =>
  if j = 0 then F0 else if j = 1 then F1 else if j < 203 then .int .i64 (s.get ((j - 2 : Nat) : Int)) else if j < 404 then .bool (s.vars ((j - 203 : Nat) : Int)).isSome else if j = 404 then m else if j = 405 then a else if j = 406 then c else if j = 407 then .int .i64 s.b else if j = 408 then .int .i64 s.i else if j = 409 then .int .i64 s.steps else if j = 410 then .int .i64 s.e else .int .i64 s.v
def wC (F0 F1 m a c : Value) (s : RSt) : Array Value := rngV 412 (wV F0 F1 m a c s)
theorem wC_size {F0 F1 m a c : Value} {s : RSt} : (wC F0 F1 m a c s).size = 412 := rngV_size _ _
theorem wC_at {F0 F1 m a c : Value} {s : RSt} {j : Nat} (h : j < 412) : (wC F0 F1 m a c s)[j]? = some (wV F0 F1 m a c s j) := rngV_get h
theorem wC_val {F0 F1 m a c : Value} {s : RSt} {k : Nat} (h : k ≤ 200) : (wC F0 F1 m a c s)[2 + k * 1]? = some (.int .i64 (s.get (k : Int))) := by
  rw [wC_at (by omega)]
  unfold wV
  rw [if_neg (by omega), if_neg (by omega), if_pos (by omega), show 2 + k * 1 - 2 = k by omega]
theorem wC_has {F0 F1 m a c : Value} {s : RSt} {k : Nat} (h : k ≤ 200) : (wC F0 F1 m a c s)[203 + k * 1]? = some (.bool (s.vars (k : Int)).isSome) := by
  rw [wC_at (by omega)]
  unfold wV
  rw [if_neg (by omega), if_neg (by omega), if_neg (by omega), if_pos (by omega), show 203 + k * 1 - 203 = k by omega]
theorem wC_set {F0 F1 m a c : Value} {s : RSt} {k : Nat} {v : Int} (h : k ≤ 200) : ((wC F0 F1 m a c s).setIfInBounds (2 + k * 1) (.int .i64 v)).setIfInBounds (203 + k * 1) (.bool true) = wC F0 F1 m a c { s with vars := updI s.vars (k : Int) v } := by
  unfold wC
  rw [rngV_set, rngV_set]
  refine rngV_congr fun j hj => ?_
  by_cases h1 : j = 203 + k * 1
  · subst h1
    rw [if_pos rfl]
    unfold wV
    rw [if_neg (by omega), if_neg (by omega), if_neg (by omega), if_pos (by omega), show 203 + k * 1 - 203 = k by omega]
    simp [updI]
  · rw [if_neg h1]
    by_cases h2 : j = 2 + k * 1
    · subst h2
      rw [if_pos rfl]
      unfold wV
      rw [if_neg (by omega), if_neg (by omega), if_pos (by omega), show 2 + k * 1 - 2 = k by omega]
      simp [RSt.get, updI]
    · rw [if_neg h2]
      unfold wV RSt.get updI
      by_cases c0 : j = 0
      · simp [c0]
      by_cases c1 : j = 1
      · simp [c1]
      by_cases c2 : j < 203
      · have : ¬ (((j - 2 : Nat) : Int) = (k : Int)) := by omega
        simp [c0, c1, c2, this]
      by_cases c3 : j < 404
      · have : ¬ (((j - 203 : Nat) : Int) = (k : Int)) := by omega
        simp [c0, c1, c2, c3, this]
      · simp only [c0, c1, c2, c3, if_false]
section
theorem ref08_set_cm {w0 : World} {B g k : Nat} {v : Int} {F0 F1 m a c : Value} {s : RSt} (h1 : 1 ≤ k) (h2 : k ≤ 200) : Cm Tryz.prog 58 #[.pointer (some ⟨g, 0, none⟩), .int .i64 (k : Int), .int .i64 v] w0 B [blk g (.cells (wC F0 F1 m a c s) 84)] (fun u L => u = .tuple #[] ∧ L = [blk g (.cells (wC F0 F1 m a c { s with vars := updI s.vars (k : Int) v }) 84)]) := by
  have hgt : decide ((0 : Int) < (k : Int)) = true := decide_eq_true (by omega)
  refine Cm.mk Tryz.func58 rfl rfl fun M => ?_
  refine Cd.seq ?_
  refine Cd.region ?_
  refine Ol.p mvp ?_
  refine Ol.p mvi ?_
  refine Ol.p mvi ?_
  refine Ol.p nlc ?_
  refine Ol.p (fdl fd_ref08_Run_1) ?_
  refine Ol.p (ixl (off := 2) (ix := k) ar_A201_int) ?_
  refine Ol.s (sto (i := 0) (k := 2 + k * 1) (v := .int .i64 v) (.inr sz_int) rfl rfl rfl (by rw [wC_size]; omega) rfl) ?_
  refine Ol.nil ?_
  refine Cd.region ?_
  refine Ol.p mvp ?_
  refine Ol.p mvi ?_
  refine Ol.p mvi ?_
  refine Ol.p gti ?_
  refine Ol.p nlc ?_
  refine Ol.p (fdl fd_ref08_Run_2) ?_
  refine Ol.p (ixl (off := 203) (ix := k) ar_A201_bool) ?_
  refine Ol.s (sto (i := 0) (k := 203 + k * 1) (v := .bool true) (.inr sz_bool) rfl rfl rfl (by rw [Array.size_setIfInBounds, wC_size]; omega) (congrArg Value.bool hgt)) ?_
  refine Ol.nil ?_
  refine ⟨_, ret0 rfl, _, .all, rfl, ?_⟩
  rw [← wC_set h2]
  rfl
end
theorem wV_low {F0 F1 m a c m' a' c' : Value} {s s' : RSt} {j : Nat} (hv : s'.vars = s.vars) (h : j < 404) : wV F0 F1 m a c s j = wV F0 F1 m' a' c' s' j := by
  unfold wV RSt.get
  rw [hv]
  by_cases c0 : j = 0
  · simp only [c0, if_true]
  · by_cases c1 : j = 1
    · simp only [c0, c1, if_true, if_false]
    · by_cases c2 : j < 203
      · simp only [c0, c1, c2, if_true, if_false]
      · simp only [c0, c1, c2, h, if_true, if_false]
theorem wC_b {F0 F1 m a c : Value} {s : RSt} {n : Nat} : (wC F0 F1 m a c s).setIfInBounds 407 (.int .i64 (n : Int)) = wC F0 F1 m a c { s with b := n } := by
  unfold wC
  rw [rngV_set]
  refine rngV_congr fun j hj => ?_
  by_cases h : j < 404
  · rw [if_neg (by omega)]
    exact wV_low rfl h
  · have : j = 404 ∨ j = 405 ∨ j = 406 ∨ j = 407 ∨ j = 408 ∨ j = 409 ∨ j = 410 ∨ j = 411 := by omega
    rcases this with rfl | rfl | rfl | rfl | rfl | rfl | rfl | rfl <;> rfl
theorem wC_i {F0 F1 m a c : Value} {s : RSt} {n : Nat} : (wC F0 F1 m a c s).setIfInBounds 408 (.int .i64 (n : Int)) = wC F0 F1 m a c { s with i := n } := by
  unfold wC
  rw [rngV_set]
  refine rngV_congr fun j hj => ?_
  by_cases h : j < 404
  · rw [if_neg (by omega)]
    exact wV_low rfl h
  · have : j = 404 ∨ j = 405 ∨ j = 406 ∨ j = 407 ∨ j = 408 ∨ j = 409 ∨ j = 410 ∨ j = 411 := by omega
    rcases this with rfl | rfl | rfl | rfl | rfl | rfl | rfl | rfl <;> rfl
theorem wC_steps {F0 F1 m a c : Value} {s : RSt} {n : Nat} : (wC F0 F1 m a c s).setIfInBounds 409 (.int .i64 (n : Int)) = wC F0 F1 m a c { s with steps := n } := by
  unfold wC
  rw [rngV_set]
  refine rngV_congr fun j hj => ?_
  by_cases h : j < 404
  · rw [if_neg (by omega)]
    exact wV_low rfl h
  · have : j = 404 ∨ j = 405 ∨ j = 406 ∨ j = 407 ∨ j = 408 ∨ j = 409 ∨ j = 410 ∨ j = 411 := by omega
    rcases this with rfl | rfl | rfl | rfl | rfl | rfl | rfl | rfl <;> rfl
theorem wC_e {F0 F1 m a c : Value} {s : RSt} {n : Int} : (wC F0 F1 m a c s).setIfInBounds 410 (.int .i64 n) = wC F0 F1 m a c { s with e := n } := by
  unfold wC
  rw [rngV_set]
  refine rngV_congr fun j hj => ?_
  by_cases h : j < 404
  · rw [if_neg (by omega)]
    exact wV_low rfl h
  · have : j = 404 ∨ j = 405 ∨ j = 406 ∨ j = 407 ∨ j = 408 ∨ j = 409 ∨ j = 410 ∨ j = 411 := by omega
    rcases this with rfl | rfl | rfl | rfl | rfl | rfl | rfl | rfl <;> rfl
theorem wC_v {F0 F1 m a c : Value} {s : RSt} {n : Int} : (wC F0 F1 m a c s).setIfInBounds 411 (.int .i64 n) = wC F0 F1 m a c { s with v := n } := by
  unfold wC
  rw [rngV_set]
  refine rngV_congr fun j hj => ?_
  by_cases h : j < 404
  · rw [if_neg (by omega)]
    exact wV_low rfl h
  · have : j = 404 ∨ j = 405 ∨ j = 406 ∨ j = 407 ∨ j = 408 ∨ j = 409 ∨ j = 410 ∨ j = 411 := by omega
    rcases this with rfl | rfl | rfl | rfl | rfl | rfl | rfl | rfl <;> rfl
theorem wC_al {F0 F1 m a c x : Value} {s : RSt} : (wC F0 F1 m a c s).setIfInBounds 405 x = wC F0 F1 m x c s := by
  unfold wC
  rw [rngV_set]
  refine rngV_congr fun j hj => ?_
  by_cases h : j < 404
  · rw [if_neg (by omega)]
    exact wV_low rfl h
  · have : j = 404 ∨ j = 405 ∨ j = 406 ∨ j = 407 ∨ j = 408 ∨ j = 409 ∨ j = 410 ∨ j = 411 := by omega
    rcases this with rfl | rfl | rfl | rfl | rfl | rfl | rfl | rfl <;> rfl
theorem wC_cl {F0 F1 m a c x : Value} {s : RSt} : (wC F0 F1 m a c s).setIfInBounds 406 x = wC F0 F1 m a x s := by
  unfold wC
  rw [rngV_set]
  refine rngV_congr fun j hj => ?_
  by_cases h : j < 404
  · rw [if_neg (by omega)]
    exact wV_low rfl h
  · have : j = 404 ∨ j = 405 ∨ j = 406 ∨ j = 407 ∨ j = 408 ∨ j = 409 ∨ j = 410 ∨ j = 411 := by omega
    rcases this with rfl | rfl | rfl | rfl | rfl | rfl | rfl | rfl <;> rfl
section
theorem ref08_trap_cm {w0 : World} {B g : Nat} {F0 F1 m a c : Value} {s : RSt} : Cm Tryz.prog 104 #[.pointer (some ⟨g, 0, none⟩)] w0 B [blk g (.cells (wC F0 F1 m a c s) 84)] (fun u L => u = .tuple #[] ∧ L = [blk g (.cells (wC F0 F1 m a c { s with e := 2 }) 84)]) := by
  refine Cm.mk Tryz.func104 rfl rfl fun M => ?_
  refine Cd.region ?_
  refine Ol.p mvp ?_
  refine Ol.p nlc ?_
  refine Ol.p (fdl fd_ref08_Run_9) ?_
  refine Ol.s (sto (i := 0) (k := 410) (v := .int .i64 2) (.inr sz_api_EndKind) rfl rfl rfl (by rw [wC_size]; omega) rfl) ?_
  refine Ol.nil ?_
  refine ⟨_, ret0 rfl, _, .all, rfl, ?_⟩
  rw [← wC_e]
  rfl
end
/-- The place of the memory, or -1. -/
def placeV (s : RSt) (i : RIns) : Int := match memAt s (wI (s.get i.a + i.imm)) with
  | some n => (n : Int)
  | none => -1
section
theorem ref08_place_cm {w0 : World} {B g mC : Nat} {mA : Option Addr} {F0 F1 a c : Value} {s : RSt} {i : RIns} (ha : 0 ≤ i.a ∧ i.a ≤ 200) : Cm Tryz.prog 103 #[.pointer (some ⟨g, 0, none⟩), i.val] w0 B [blk g (.cells (wC F0 F1 (.slice mA s.mem.length mC) a c s) 84)] (fun u L => u = .int .i64 (placeV s i) ∧ L = [blk g (.cells (wC F0 F1 (.slice mA s.mem.length mC) a c s) 84)]) := by
  obtain ⟨ka, hka⟩ : ∃ ka : Nat, i.a = (ka : Int) := ⟨i.a.toNat, by omega⟩
  have hval := wC_val (F0 := F0) (F1 := F1) (m := .slice mA s.mem.length mC) (a := a) (c := c) (s := s) (k := ka) (by omega)
  rw [← hka] at hval
  refine Cm.mk Tryz.func103 rfl rfl fun M => ?_
  refine Cd.seq ?_
  refine Cd.region ?_
  refine Ol.x bxg ?_
  rintro _ _ ⟨g3, rfl, rfl⟩
  refine Ol.p asi ?_
  refine Ol.nil ?_
  refine Cd.seq ?_
  refine Cd.draw mixed 11 (fun _ => none) (fun _ => []) (by kernel_rfl) (fun _ _ h => by cases h) (fun u hu => ?_)
  refine Wk.p mvp ?_
  refine Wk.p (fdl fd_api_Ins_2) ?_
  refine Wk.p (ld (v := .int .i64 i.a) one_int (Rd.blk (i := 0) (k := 2) rfl rfl)) ?_
  refine Wk.p nlc ?_
  refine Wk.p (fdl fd_ref08_Run_1) ?_
  refine Wk.p (ixl (off := 2) (ix := ka) ar_A201_int (hy := congrArg (Value.int .i64) hka)) ?_
  refine Wk.p (ld (v := .int .i64 (s.get i.a)) one_int (Rd.blk (i := 1) rfl hval)) ?_
  refine Wk.p (fdl fd_api_Ins_4) ?_
  refine Wk.p (ld (v := .int .i64 i.imm) one_int (Rd.blk (i := 0) (k := 4) rfl rfl)) ?_
  refine Wk.p (arw (.inl rfl)) ?_
  refine Wk.p asi ?_
  refine Wk.nil ?_
  refine Ol.nil ?_
  obtain ⟨n, hn⟩ : ∃ n, n = IntKind.i64.wrap (s.get i.a + i.imm) := ⟨_, rfl⟩
  have hml : (wC F0 F1 (.slice mA s.mem.length mC) a c s)[404]? = some (.slice mA s.mem.length mC) := wC_at (by omega)
  have hpv : placeV s i = match memAt s n with
    | some q => (q : Int)
    | none => -1 := by rw [hn]; rfl
  rw [hpv]
  refine Cd.seq ?_
  cases q2 : decide (IntKind.i64.wrap (s.get i.a + i.imm) < 0) with
  | true =>
    have hlt := of_decide_eq_true q2
    rw [← hn] at hlt
    refine Cd.seq ?_
    refine Cd.region ?_
    refine Ol.p mvi ?_
    refine Ol.p lsi ?_
    refine Ol.p mvb ?_
    refine Ol.gn q2 ?_
    refine Ol.gn q2 ?_
    refine Ol.gn q2 ?_
    refine Ol.gn q2 ?_
    refine Ol.gn q2 ?_
    refine Ol.gn q2 ?_
    refine Ol.gn q2 ?_
    refine Ol.p (pkTb q2) ?_
    refine Ol.nil ?_
    refine Cd.cond rfl (fun h => ?_) (fun h => by cases h)
    refine Cd.seq ?_
    refine Cd.region ?_
    refine Ol.p asi ?_
    refine Ol.nil ?_
    refine Cd.ret ⟨.int .i64 (-1), ret1 rfl rfl, _, .sub (.cons _ (List.Sublist.refl _)), ?_, rfl⟩
    unfold memAt
    rw [if_neg (by omega)]
  | false =>
    have hge := of_decide_eq_false q2
    rw [← hn] at hge
    refine Cd.seq ?_
    refine Cd.region ?_
    refine Ol.p mvi ?_
    refine Ol.p lsi ?_
    refine Ol.p mvb ?_
    refine Ol.gp q2 mvi ?_
    refine Ol.gp q2 mvp ?_
    refine Ol.gp q2 nlc ?_
    refine Ol.gp q2 (fdl fd_ref08_Run_3) ?_
    refine Ol.gp q2 (ld (v := .slice mA s.mem.length mC) one_L_int (Rd.blk (i := 1) (k := 404) rfl hml)) ?_
    refine Ol.gp q2 (lens sl_L_int) ?_
    refine Ol.gp q2 gei ?_
    refine Ol.p (pkFb q2) ?_
    refine Ol.nil ?_
    refine Cd.cond rfl (fun h => ?_) (fun h => ?_)
    · have h : decide ((s.mem.length : Int) ≤ IntKind.i64.wrap (s.get i.a + i.imm)) = true := h
      have hle := of_decide_eq_true h
      rw [← hn] at hle
      refine Cd.seq ?_
      refine Cd.region ?_
      refine Ol.p asi ?_
      refine Ol.nil ?_
      refine Cd.ret ⟨.int .i64 (-1), ret1 rfl rfl, _, .sub (.cons _ (List.Sublist.refl _)), ?_, rfl⟩
      unfold memAt
      rw [if_neg (by omega)]
    · have h : decide ((s.mem.length : Int) ≤ IntKind.i64.wrap (s.get i.a + i.imm)) = false := h
      have hle := of_decide_eq_false h
      rw [← hn] at hle
      refine Cd.skip ?_
      refine Cd.seq ?_
      refine Cd.region ?_
      refine Ol.p mvi ?_
      refine Ol.p asi ?_
      refine Ol.nil ?_
      refine Cd.ret ⟨_, ret1 rfl rfl, _, .sub (.cons _ (List.Sublist.refl _)), ?_, rfl⟩
      unfold memAt
      rw [if_pos (by omega), ← hn]
      exact congrArg (Value.int .i64) (by show n = ((n.toNat : Nat) : Int); omega)
end
end Go.Proofs.YtjenaenakopicaaGreat

/- Reference 08: an end is done, walked. -/
namespace Go.Proofs.YtjenaenakopicaaGreat
set_option linter.unusedVariables false
set_option linter.unusedSimpArgs false
open Go Go.RowKit
set_option maxRecDepth 100000
section
set_option maxHeartbeats 1000000 in
theorem ref08_term_cm {w0 : World} {B g : Nat} {F0 F1 m a c : Value} {s : RSt} {t : Tm} (ha : 0 ≤ t.a ∧ t.a ≤ 200) (h0 : s.get 0 = 0) (hv : s.v = 0) (hsp : ∀ bb ii, termF s t = .spot bb ii → 0 ≤ bb) : Cm Tryz.prog 65 #[.pointer (some ⟨g, 0, none⟩), t.val] w0 B [blk g (.cells (wC F0 F1 m a c s) 84)] (fun u L => u = .tuple #[] ∧ L = [blk g (.cells (wC F0 F1 m a c (nxS s (termF s t))) 84)]) := by
  obtain ⟨ka, hka⟩ : ∃ ka : Nat, t.a = (ka : Int) := ⟨t.a.toNat, by omega⟩
  have hval := wC_val (F0 := F0) (F1 := F1) (m := m) (a := a) (c := c) (s := s) (k := ka) (by omega)
  rw [← hka] at hval
  refine Cm.mk Tryz.func65 rfl rfl fun M => ?_
  refine Cd.seq ?_
  refine Cd.region ?_
  refine Ol.x bxg ?_
  rintro _ _ ⟨g3, rfl, rfl⟩
  refine Ol.nil ?_
  refine Cd.seq ?_
  refine Cd.seq ?_
  refine Cd.region ?_
  refine Ol.p (fdl fd_api_Term_0) ?_
  refine Ol.p (ld (v := .int .i64 t.kind) one_api_TermKind (Rd.blk (i := 0) (k := 0) rfl rfl)) ?_
  refine Ol.nil ?_
  refine Cd.block ?_
  refine Cd.seq ?_
  refine Cd.region ?_
  refine Ol.p eqi ?_
  refine Ol.p asb ?_
  refine Ol.nil ?_
  refine Cd.cond rfl (fun h => ?_) (fun h => ?_)
  · have hk : t.kind = 3 := of_decide_eq_true h
    have hN : termF s t = .done 1 (s.get t.a) := by unfold termF; rw [if_pos hk]
    rw [hN]
    refine Cd.seq ?_
    refine Cd.region ?_
    refine Ol.p mvp ?_
    refine Ol.p nlc ?_
    refine Ol.p (fdl fd_ref08_Run_9) ?_
    refine Ol.s (sto (i := 1) (k := 410) (v := .int .i64 1) (.inr sz_api_EndKind) rfl rfl rfl (by rw [wC_size]; omega) rfl) ?_
    refine Ol.nil ?_
    show Cd _ _ _ _ [blk g3 (.cells t.cells.toArray 30), blk g (.cells ((wC F0 F1 m a c s).setIfInBounds 410 (.int .i64 1)) 84)]
    rw [wC_e]
    have hval1 := wC_val (F0 := F0) (F1 := F1) (m := m) (a := a) (c := c) (s := { s with e := 1 }) (k := ka) (by omega)
    rw [← hka] at hval1
    refine Cd.mid (fun σ' L' => [blk g3 (.cells t.cells.toArray 30), blk g (.cells (wC F0 F1 m a c { s with e := 1, v := s.get t.a }) 84)] = L') ?_ ?_
    · skip
      refine Cd.seq ?_
      refine Cd.region ?_
      refine Ol.p (fdl fd_api_Term_1) ?_
      refine Ol.p (ld (v := .int .i64 t.a) one_int (Rd.blk (i := 0) (k := 1) rfl rfl)) ?_
      refine Ol.p gti ?_
      refine Ol.nil ?_
      refine Cd.cond rfl (fun h => ?_) (fun h => ?_)
      · skip
        refine Cd.draw mixed 10 (fun _ => none) (fun _ => []) (by kernel_rfl) (fun _ _ h => by cases h) (fun u hu => ?_)
        refine Wk.p mvp ?_
        refine Wk.p mvp ?_
        refine Wk.p (fdl fd_api_Term_1) ?_
        refine Wk.p (ld (v := .int .i64 t.a) one_int (Rd.blk (i := 0) (k := 1) rfl rfl)) ?_
        refine Wk.p nlc ?_
        refine Wk.p (fdl fd_ref08_Run_1) ?_
        refine Wk.p (ixl (off := 2) (ix := ka) ar_A201_int (hy := congrArg (Value.int .i64) hka)) ?_
        refine Wk.p (ld (v := .int .i64 (s.get t.a)) one_int (Rd.blk (i := 1) rfl hval1)) ?_
        refine Wk.p nlc ?_
        refine Wk.p (fdl fd_ref08_Run_10) ?_
        refine Wk.nil ?_
        refine Ol.s (sto (i := 1) (k := 411) (v := .int .i64 (s.get t.a)) (.inr sz_int) rfl rfl rfl (by rw [wC_size]; omega) rfl) ?_
        refine Ol.nil ?_
        show [_, _] = [_, blk g (.cells ((wC F0 F1 m a c { s with e := 1 }).setIfInBounds 411 (.int .i64 (s.get t.a))) 84)]
        rw [wC_v]
      · refine Cd.skip ?_
        have h : decide ((0 : Int) < t.a) = false := h
        have hle := of_decide_eq_false h
        have hz : t.a = 0 := by omega
        rw [hz, h0, ← hv]
        rfl
    rintro σ' _ rfl
    exact Cd.ret ⟨_, ret0 rfl, _, .sub (.cons _ (List.Sublist.refl _)), rfl, rfl⟩
  have hk3 : t.kind ≠ 3 := of_decide_eq_false h
  refine Cd.seq ?_
  refine Cd.region ?_
  refine Ol.p eqi ?_
  refine Ol.p asb ?_
  refine Ol.nil ?_
  refine Cd.cond rfl (fun h => ?_) (fun h => ?_)
  · have hk : t.kind = 4 := of_decide_eq_true h
    have hN : termF s t = .done 2 0 := by unfold termF; rw [if_neg hk3, if_pos hk]
    rw [hN]
    refine Cd.seq ?_
    refine Cd.region ?_
    refine Ol.p mvp ?_
    refine Ol.x (sp_callm (vs := [.pointer (some ⟨g, 0, none⟩)]) (Lin := [blk g (.cells (wC F0 F1 m a c s) 84)]) (L2 := [blk g3 (.cells t.cells.toArray 30)]) en_P_ref08_Run_trap (List.Perm.swap _ _ _) ref08_trap_cm) ?_
    rintro _ _ ⟨_, rfl, rfl, rfl⟩
    refine Ol.nil ?_
    refine Cd.ret ⟨_, ret0 rfl, _, .fst, rfl, ?_⟩
    show [blk g (.cells (wC F0 F1 m a c { s with e := 2 }) 84)] = [blk g (.cells (wC F0 F1 m a c { s with e := 2, v := 0 }) 84)]
    rw [hv]
  have hk4 : t.kind ≠ 4 := of_decide_eq_false h
  refine Cd.skip ?_
  refine Cd.seq ?_
  refine Cd.region ?_
  refine Ol.p asi ?_
  refine Ol.nil ?_
  obtain ⟨kk, hkk⟩ : ∃ kk : Nat, kk = if t.kind = 2 ∧ s.get t.a = 0 then 1 else 0 := ⟨_, rfl⟩
  refine Cd.mid (fun σ' L' => Has σ' [(0, .pointer (some ⟨g, 0, none⟩)), (3, .pointer (some ⟨g3, 0, none⟩)), (4, .int .i64 (kk : Int))] ∧ [blk g3 (.cells t.cells.toArray 30), blk g (.cells (wC F0 F1 m a c s) 84)] = L') ?_ ?_
  · skip
    refine Cd.seq ?_
    cases q3 : decide (t.kind = 2) with
    | true =>
      have hk2 := of_decide_eq_true q3
      refine Cd.draw mixed 13 (fun _ => none) (fun _ => []) (by kernel_rfl) (fun _ _ h => by cases h) (fun u hu => ?_)
      refine Wk.p (fdl fd_api_Term_0) ?_
      refine Wk.p (ld (v := .int .i64 t.kind) one_api_TermKind (Rd.blk (i := 0) (k := 0) rfl rfl)) ?_
      refine Wk.p eqi ?_
      refine Wk.p mvb ?_
      refine Wk.gp q3 mvp ?_
      refine Wk.gp q3 (fdl fd_api_Term_1) ?_
      refine Wk.gp q3 (ld (v := .int .i64 t.a) one_int (Rd.blk (i := 0) (k := 1) rfl rfl)) ?_
      refine Wk.gp q3 nlc ?_
      refine Wk.gp q3 (fdl fd_ref08_Run_1) ?_
      refine Wk.gp q3 (ixl (off := 2) (ix := ka) ar_A201_int (hy := congrArg (Value.int .i64) hka)) ?_
      refine Wk.gp q3 (ld (v := .int .i64 (s.get t.a)) one_int (Rd.blk (i := 1) rfl hval)) ?_
      refine Wk.gp q3 eqi ?_
      refine Wk.p (pkTb q3) ?_
      refine Wk.nil ?_
      refine Ol.nil ?_
      refine Cd.cond rfl (fun h => ?_) (fun h => ?_)
      · have hz : s.get t.a = 0 := of_decide_eq_true h
        rw [if_pos ⟨hk2, hz⟩] at hkk
        subst hkk
        refine Cd.region ?_
        refine Ol.p asi ?_
        refine Ol.nil ?_
        exact ⟨⟨rfl, rfl, rfl, trivial⟩, rfl⟩
      · have hz : s.get t.a ≠ 0 := of_decide_eq_false h
        rw [if_neg (fun e => hz e.2)] at hkk
        subst hkk
        refine Cd.skip ?_
        exact ⟨⟨rfl, rfl, rfl, trivial⟩, rfl⟩
    | false =>
      have hk2 := of_decide_eq_false q3
      rw [if_neg (fun e => hk2 e.1)] at hkk
      subst hkk
      refine Cd.draw mixed 13 (fun _ => none) (fun _ => []) (by kernel_rfl) (fun _ _ h => by cases h) (fun u hu => ?_)
      refine Wk.p (fdl fd_api_Term_0) ?_
      refine Wk.p (ld (v := .int .i64 t.kind) one_api_TermKind (Rd.blk (i := 0) (k := 0) rfl rfl)) ?_
      refine Wk.p eqi ?_
      refine Wk.p mvb ?_
      refine Wk.gn q3 ?_
      refine Wk.gn q3 ?_
      refine Wk.gn q3 ?_
      refine Wk.gn q3 ?_
      refine Wk.gn q3 ?_
      refine Wk.gn q3 ?_
      refine Wk.gn q3 ?_
      refine Wk.gn q3 ?_
      refine Wk.p (pkFb q3) ?_
      refine Wk.nil ?_
      refine Ol.nil ?_
      refine Cd.cond rfl (fun h => ?_) (fun h => ?_)
      · cases h
      refine Cd.skip ?_
      exact ⟨⟨rfl, rfl, rfl, trivial⟩, rfl⟩
  rintro σ' _ ⟨hs', rfl⟩
  refine Cd.has hs' ?_
  clear hs'
  have hN : termF s t = .spot (if kk = 1 then t.t1 else t.t0) 0 := by
    unfold termF
    rw [if_neg hk3, if_neg hk4]
    by_cases hc : t.kind = 2 ∧ s.get t.a = 0
    · rw [if_pos hc] at hkk ⊢
      rw [if_pos hkk]
    · rw [if_neg hc] at hkk ⊢
      rw [if_neg (by omega)]
  have hk01 : kk < 2 := by
    rw [hkk]
    split <;> omega
  have hb0 := hsp _ _ hN
  obtain ⟨nb, hnb⟩ : ∃ nb : Nat, (if kk = 1 then t.t1 else t.t0) = (nb : Int) := ⟨(if kk = 1 then t.t1 else t.t0).toNat, by omega⟩
  have hcell : t.cells.toArray[2 + kk * 1]? = some (.int .i64 (nb : Int)) := by
    rw [← hnb]
    have : kk = 0 ∨ kk = 1 := by omega
    rcases this with rfl | rfl <;> rfl
  refine Cd.seq ?_
  refine Cd.region ?_
  refine Ol.p mvp ?_
  refine Ol.p mvi ?_
  refine Ol.p (fdl fd_api_Term_2) ?_
  refine Ol.p (ixl (off := 2) (ix := kk) ar_A2_int) ?_
  refine Ol.p (ld (v := .int .i64 (nb : Int)) one_int (Rd.blk (i := 0) rfl hcell)) ?_
  refine Ol.p nlc ?_
  refine Ol.p (fdl fd_ref08_Run_6) ?_
  refine Ol.s (sto (i := 1) (k := 407) (v := .int .i64 (nb : Int)) (.inr sz_int) rfl rfl rfl (by rw [wC_size]; omega) rfl) ?_
  refine Ol.nil ?_
  show Cd _ _ _ _ [blk g3 (.cells t.cells.toArray 30), blk g (.cells ((wC F0 F1 m a c s).setIfInBounds 407 (.int .i64 (nb : Int))) 84)]
  rw [wC_b]
  refine Cd.region ?_
  refine Ol.p mvp ?_
  refine Ol.p nlc ?_
  refine Ol.p (fdl fd_ref08_Run_7) ?_
  refine Ol.s (sto (i := 1) (k := 408) (v := .int .i64 0) (.inr sz_int) rfl rfl rfl (by rw [wC_size]; omega) rfl) ?_
  refine Ol.nil ?_
  refine ⟨_, ret0 rfl, _, .sub (.cons _ (List.Sublist.refl _)), rfl, ?_⟩
  rw [hN, hnb]
  show [blk g (.cells ((wC F0 F1 m a c { s with b := nb }).setIfInBounds 408 (.int .i64 ((0 : Nat) : Int))) 84)] = _
  rw [wC_i]
  rfl
end
end Go.Proofs.YtjenaenakopicaaGreat

/- Reference 08: an instruction that is no call is done, walked. -/
namespace Go.Proofs.YtjenaenakopicaaGreat
set_option linter.unusedVariables false
set_option linter.unusedSimpArgs false
open Go Go.RowKit
set_option maxRecDepth 100000
theorem isIns_dst {i : RIns} (h : isIns i = true) (h13 : i.op ≠ 13) (h12 : i.op ≠ 12) : 1 ≤ i.dst ∧ i.dst ≤ 200 := by
  have hs : (shp i.op).1.dst = true ∧ (shp i.op).1.call = false := by
    unfold shp
    rw [decide_eq_false h13, decide_eq_false h12]
    by_cases a1 : i.op = 1
    · rw [decide_eq_true a1]; exact ⟨rfl, rfl⟩
    · rw [decide_eq_false a1]
      by_cases a2 : i.op = 11
      · rw [decide_eq_true a2]; exact ⟨rfl, rfl⟩
      · rw [decide_eq_false a2]
        by_cases a3 : i.op = 14
        · rw [decide_eq_true a3]; exact ⟨rfl, rfl⟩
        · rw [decide_eq_false a3]; exact ⟨rfl, rfl⟩
  unfold isIns at h
  rw [hs.1, hs.2] at h
  cases h1 : (!(shp i.op).2 || !decide (i.many = 0)) with
  | true => rw [h1] at h; cases h
  | false =>
    rw [h1, cond_false, cond_false] at h
    cases h2 : ((!(shp i.op).1.imm && !decide (i.imm = 0)) || decide (i.imm < -1099511627776) || decide (1099511627776 < i.imm)) with
    | true => rw [h2] at h; cases h
    | false =>
      rw [h2, cond_false] at h
      simp only [Bool.and_eq_true] at h
      exact varB_iff.1 h.1.1.2
theorem wC_i_at {F0 F1 m a c : Value} {s : RSt} : (wC F0 F1 m a c s)[408]? = some (.int .i64 (s.i : Int)) := wC_at (by omega)
theorem wC_m_at {F0 F1 m a c : Value} {s : RSt} : (wC F0 F1 m a c s)[404]? = some m := wC_at (by omega)
section
/-- An instruction that only sets a variable: constant, copy, or a calculation that has a value. -/
def setsV (s : RSt) (i : RIns) (v : Int) : RSt := { s with vars := updI s.vars i.dst v }
set_option maxHeartbeats 2000000 in
theorem ref08_ins_copy_cm {w0 : World} {B g mC : Nat} {mA : Option Addr} {F0 F1 a c : Value} {s : RSt} {i : RIns} (hi : isIns i = true) (hop : i.op = 1 ∨ i.op = 14) (hsp : s.i < 2 ^ 60) :
    Cm Tryz.prog 64 #[.pointer (some ⟨g, 0, none⟩), i.val] w0 B [blk g (.cells (wC F0 F1 (.slice mA s.mem.length mC) a c s) 84), row (.slice mA s.mem.length mC) 3 1 s.mem.length (ints s.mem)] (fun u L => u = .tuple #[] ∧ L = [blk g (.cells (wC F0 F1 (.slice mA s.mem.length mC) a c { setsV s i (if i.op = 1 then i.imm else s.get i.a) with i := s.i + 1 }) 84), row (.slice mA s.mem.length mC) 3 1 s.mem.length (ints s.mem)]) := by
  have hd := isIns_dst hi (by omega) (by omega)
  obtain ⟨kd, hkd⟩ : ∃ kd : Nat, i.dst = (kd : Int) := ⟨i.dst.toNat, by omega⟩
  obtain ⟨_, ha, _⟩ := isIns_parts hi
  obtain ⟨ka, hka⟩ : ∃ ka : Nat, i.a = (ka : Int) := ⟨i.a.toNat, by omega⟩
  have hval := wC_val (F0 := F0) (F1 := F1) (m := .slice mA s.mem.length mC) (a := a) (c := c) (s := s) (k := ka) (by omega)
  rw [← hka] at hval
  have hset : ∀ v : Int, Cm Tryz.prog 58 #[.pointer (some ⟨g, 0, none⟩), .int .i64 i.dst, .int .i64 v] w0 B [blk g (.cells (wC F0 F1 (.slice mA s.mem.length mC) a c s) 84)] (fun u L => u = .tuple #[] ∧ L = [blk g (.cells (wC F0 F1 (.slice mA s.mem.length mC) a c (setsV s i v)) 84)]) := fun v => by
    unfold setsV
    rw [hkd]
    exact ref08_set_cm (by omega) (by omega)
  refine Cm.mk Tryz.func64 rfl rfl fun M => ?_
  refine Cd.seq ?_
  refine Cd.region ?_
  refine Ol.x bxg ?_
  rintro _ _ ⟨g3, rfl, rfl⟩
  refine Ol.nil ?_
  refine Cd.mid (fun σ' L' => Has σ' [(0, .pointer (some ⟨g, 0, none⟩))] ∧ Keep L' [blk g (.cells (wC F0 F1 (.slice mA s.mem.length mC) a c (setsV s i (if i.op = 1 then i.imm else s.get i.a))) 84), row (.slice mA s.mem.length mC) 3 1 s.mem.length (ints s.mem)]) ?_ ?_
  · skip
    refine Cd.seq ?_
    refine Cd.region ?_
    refine Ol.p (fdl fd_api_Ins_0) ?_
    refine Ol.p (ld (v := .int .i64 i.op) one_api_Op (Rd.blk (i := 0) (k := 0) rfl rfl)) ?_
    refine Ol.nil ?_
    refine Cd.block ?_
    refine Cd.seq ?_
    refine Cd.region ?_
    refine Ol.p eqi ?_
    refine Ol.p asb ?_
    refine Ol.nil ?_
    refine Cd.cond rfl (fun h => ?_) (fun h => ?_)
    · have h1 : i.op = 1 := of_decide_eq_true h
      rw [show (if i.op = 1 then i.imm else s.get i.a) = i.imm from if_pos h1]
      refine Cd.region ?_
      refine Ol.p mvp ?_
      refine Ol.p (fdl fd_api_Ins_1) ?_
      refine Ol.p (ld (v := .int .i64 i.dst) one_int (Rd.blk (i := 0) (k := 1) rfl rfl)) ?_
      refine Ol.p (fdl fd_api_Ins_4) ?_
      refine Ol.p (ld (v := .int .i64 i.imm) one_int (Rd.blk (i := 0) (k := 4) rfl rfl)) ?_
      refine Ol.x (sp_callm (vs := [.pointer (some ⟨g, 0, none⟩), .int .i64 i.dst, .int .i64 i.imm]) (Lin := [blk g (.cells (wC F0 F1 (.slice mA s.mem.length mC) a c s) 84)]) (L2 := [blk g3 (.cells i.cells.toArray 25), row (.slice mA s.mem.length mC) 3 1 s.mem.length (ints s.mem)]) en_P_ref08_Run_set (List.Perm.swap _ _ _) (hset i.imm)) ?_
      rintro _ _ ⟨_, rfl, rfl, rfl⟩
      refine Ol.nil ?_
      exact ⟨⟨rfl, trivial⟩, .sub (.cons_cons _ (.cons _ (List.Sublist.refl _)))⟩
    have h1 : i.op ≠ 1 := of_decide_eq_false h
    have h14 : i.op = 14 := by omega
    rw [show (if i.op = 1 then i.imm else s.get i.a) = s.get i.a from if_neg h1]
    refine Cd.seq ?_
    refine Cd.region ?_
    refine Ol.p eqi ?_
    refine Ol.p asb ?_
    refine Ol.nil ?_
    refine Cd.cond rfl (fun h => ?_) (fun h => ?_)
    · skip
      refine Cd.draw mixed 10 (fun _ => none) (fun _ => []) (by kernel_rfl) (fun _ _ h => by cases h) (fun u hu => ?_)
      refine Wk.p mvp ?_
      refine Wk.p (fdl fd_api_Ins_1) ?_
      refine Wk.p (ld (v := .int .i64 i.dst) one_int (Rd.blk (i := 0) (k := 1) rfl rfl)) ?_
      refine Wk.p mvp ?_
      refine Wk.p (fdl fd_api_Ins_2) ?_
      refine Wk.p (ld (v := .int .i64 i.a) one_int (Rd.blk (i := 0) (k := 2) rfl rfl)) ?_
      refine Wk.p nlc ?_
      refine Wk.p (fdl fd_ref08_Run_1) ?_
      refine Wk.p (ixl (off := 2) (ix := ka) ar_A201_int (hy := congrArg (Value.int .i64) hka)) ?_
      refine Wk.p (ld (v := .int .i64 (s.get i.a)) one_int (Rd.blk (i := 1) rfl hval)) ?_
      refine Wk.nil ?_
      refine Ol.x (sp_callm (vs := [.pointer (some ⟨g, 0, none⟩), .int .i64 i.dst, .int .i64 (s.get i.a)]) (Lin := [blk g (.cells (wC F0 F1 (.slice mA s.mem.length mC) a c s) 84)]) (L2 := [blk g3 (.cells i.cells.toArray 25), row (.slice mA s.mem.length mC) 3 1 s.mem.length (ints s.mem)]) en_P_ref08_Run_set (List.Perm.swap _ _ _) (hset (s.get i.a))) ?_
      rintro _ _ ⟨_, rfl, rfl, rfl⟩
      refine Ol.nil ?_
      exact ⟨⟨rfl, trivial⟩, .sub (.cons_cons _ (.cons _ (List.Sublist.refl _)))⟩
    · have h : decide (i.op = 14) = false := h
      exact absurd h14 (of_decide_eq_false h)
  rintro σ' L' ⟨hs', hkp⟩
  refine Cd.keep hkp ?_
  refine Cd.has hs' ?_
  clear hs'
  obtain ⟨s2, hs2⟩ : ∃ s2, s2 = setsV s i (if i.op = 1 then i.imm else s.get i.a) := ⟨_, rfl⟩
  have hs2i : s2.i = s.i := by rw [hs2]; rfl
  rw [← hs2]
  refine Cd.region ?_
  refine Ol.p mvp ?_
  refine Ol.p nlc ?_
  refine Ol.p (fdl fd_ref08_Run_7) ?_
  refine Ol.p (ld (v := .int .i64 (s2.i : Int)) one_int (Rd.blk (i := 0) (k := 408) rfl wC_i_at)) ?_
  refine Ol.p addi ?_
  refine Ol.p nlc ?_
  refine Ol.p (fdl fd_ref08_Run_7) ?_
  refine Ol.s (sto (i := 0) (k := 408) (v := .int .i64 ((s2.i : Int) + 1)) (.inr sz_int) rfl rfl rfl (by rw [wC_size]; omega) rfl) ?_
  refine Ol.nil ?_
  refine ⟨_, ret0 rfl, _, .all, rfl, ?_⟩
  rw [← hs2i, ← wC_i]
  rfl
end
section
set_option maxHeartbeats 2000000 in
theorem ref08_ins_calc_cm {w0 : World} {B g mC : Nat} {mA : Option Addr} {F0 F1 a c : Value} {s : RSt} {i : RIns} (hi : isIns i = true) (hop : 2 ≤ i.op ∧ i.op ≤ 10) (hsp : s.i < 2 ^ 60) :
    Cm Tryz.prog 64 #[.pointer (some ⟨g, 0, none⟩), i.val] w0 B [blk g (.cells (wC F0 F1 (.slice mA s.mem.length mC) a c s) 84), row (.slice mA s.mem.length mC) 3 1 s.mem.length (ints s.mem)] (fun u L => u = .tuple #[] ∧ L = [blk g (.cells (wC F0 F1 (.slice mA s.mem.length mC) a c (if (calcF i.op (s.get i.a) (s.get i.b)).2 = true then { setsV s i (calcF i.op (s.get i.a) (s.get i.b)).1 with i := s.i + 1 } else { s with e := 2 })) 84), row (.slice mA s.mem.length mC) 3 1 s.mem.length (ints s.mem)]) := by
  have hd := isIns_dst hi (by omega) (by omega)
  obtain ⟨kd, hkd⟩ : ∃ kd : Nat, i.dst = (kd : Int) := ⟨i.dst.toNat, by omega⟩
  obtain ⟨_, ha, hb, _⟩ := isIns_parts hi
  obtain ⟨ka, hka⟩ : ∃ ka : Nat, i.a = (ka : Int) := ⟨i.a.toNat, by omega⟩
  obtain ⟨kb, hkb⟩ : ∃ kb : Nat, i.b = (kb : Int) := ⟨i.b.toNat, by omega⟩
  have hval := wC_val (F0 := F0) (F1 := F1) (m := .slice mA s.mem.length mC) (a := a) (c := c) (s := s) (k := ka) (by omega)
  rw [← hka] at hval
  have hvalb := wC_val (F0 := F0) (F1 := F1) (m := .slice mA s.mem.length mC) (a := a) (c := c) (s := s) (k := kb) (by omega)
  rw [← hkb] at hvalb
  have hset : ∀ v : Int, Cm Tryz.prog 58 #[.pointer (some ⟨g, 0, none⟩), .int .i64 i.dst, .int .i64 v] w0 B [blk g (.cells (wC F0 F1 (.slice mA s.mem.length mC) a c s) 84)] (fun u L => u = .tuple #[] ∧ L = [blk g (.cells (wC F0 F1 (.slice mA s.mem.length mC) a c (setsV s i v)) 84)]) := fun v => by
    unfold setsV
    rw [hkd]
    exact ref08_set_cm (by omega) (by omega)
  obtain ⟨r, hr⟩ : ∃ r, r = (calcF i.op (s.get i.a) (s.get i.b)) := ⟨_, rfl⟩
  have hcalc : ∀ w', Ct Tryz.prog 69 #[.int .i64 i.op, .int .i64 (s.get i.a), .int .i64 (s.get i.b)] w' (Is (.tuple #[.int .i64 r.1, .bool r.2])) := fun w' => by
    rw [hr]
    exact ref08_Calc_ct
  rw [← hr]
  refine Cm.mk Tryz.func64 rfl rfl fun M => ?_
  refine Cd.seq ?_
  refine Cd.region ?_
  refine Ol.x bxg ?_
  rintro _ _ ⟨g3, rfl, rfl⟩
  refine Ol.nil ?_
  refine Cd.mid (fun σ' L' => Has σ' [(0, .pointer (some ⟨g, 0, none⟩))] ∧ r.2 = true ∧ Keep L' [blk g (.cells (wC F0 F1 (.slice mA s.mem.length mC) a c (setsV s i r.1)) 84), row (.slice mA s.mem.length mC) 3 1 s.mem.length (ints s.mem)]) ?_ ?_
  · skip
    refine Cd.seq ?_
    refine Cd.region ?_
    refine Ol.p (fdl fd_api_Ins_0) ?_
    refine Ol.p (ld (v := .int .i64 i.op) one_api_Op (Rd.blk (i := 0) (k := 0) rfl rfl)) ?_
    refine Ol.nil ?_
    refine Cd.block ?_
    refine Cd.seq ?_
    refine Cd.region ?_
    refine Ol.p eqi ?_
    refine Ol.p asb ?_
    refine Ol.nil ?_
    refine Cd.cond rfl (fun h => ?_) (fun h => ?_)
    · have h : decide (i.op = 1) = true := h
      have := of_decide_eq_true h
      omega
    refine Cd.seq ?_
    refine Cd.region ?_
    refine Ol.p eqi ?_
    refine Ol.p asb ?_
    refine Ol.nil ?_
    refine Cd.cond rfl (fun h => ?_) (fun h => ?_)
    · have h : decide (i.op = 14) = true := h
      have := of_decide_eq_true h
      omega
    refine Cd.seq ?_
    refine Cd.region ?_
    refine Ol.p eqi ?_
    refine Ol.p asb ?_
    refine Ol.nil ?_
    refine Cd.cond rfl (fun h => ?_) (fun h => ?_)
    · have h : decide (i.op = 11) = true := h
      have := of_decide_eq_true h
      omega
    refine Cd.seq ?_
    refine Cd.region ?_
    refine Ol.p eqi ?_
    refine Ol.p asb ?_
    refine Ol.nil ?_
    refine Cd.cond rfl (fun h => ?_) (fun h => ?_)
    · have h : decide (i.op = 12) = true := h
      have := of_decide_eq_true h
      omega
    refine Cd.seq ?_
    refine Cd.region ?_
    refine Ol.p eqi ?_
    refine Ol.p asb ?_
    refine Ol.nil ?_
    refine Cd.cond rfl (fun h => ?_) (fun h => ?_)
    · have h : decide (i.op = 13) = true := h
      have := of_decide_eq_true h
      omega
    refine Cd.seq ?_
    refine Cd.draw mixed 22 (exIs (fun opNo => match opNo with | 16 => some (.tuple #[.int .i64 r.1, .bool r.2]) | _ => none)) (fun _ => []) (by kernel_rfl) exIs_in (fun u hu => ?_)
    refine Wk.p (fdl fd_api_Ins_0) ?_
    refine Wk.p (ld (v := .int .i64 i.op) one_api_Op (Rd.blk (i := 0) (k := 0) rfl rfl)) ?_
    refine Wk.p mvp ?_
    refine Wk.p (fdl fd_api_Ins_2) ?_
    refine Wk.p (ld (v := .int .i64 i.a) one_int (Rd.blk (i := 0) (k := 2) rfl rfl)) ?_
    refine Wk.p nlc ?_
    refine Wk.p (fdl fd_ref08_Run_1) ?_
    refine Wk.p (ixl (off := 2) (ix := ka) ar_A201_int (hy := congrArg (Value.int .i64) hka)) ?_
    refine Wk.p (ld (v := .int .i64 (s.get i.a)) one_int (Rd.blk (i := 1) rfl hval)) ?_
    refine Wk.p mvp ?_
    refine Wk.p (fdl fd_api_Ins_3) ?_
    refine Wk.p (ld (v := .int .i64 i.b) one_int (Rd.blk (i := 0) (k := 3) rfl rfl)) ?_
    refine Wk.p nlc ?_
    refine Wk.p (fdl fd_ref08_Run_1) ?_
    refine Wk.p (ixl (off := 2) (ix := kb) ar_A201_int (hy := congrArg (Value.int .i64) hkb)) ?_
    refine Wk.p (ld (v := .int .i64 (s.get i.b)) one_int (Rd.blk (i := 1) rfl hvalb)) ?_
    refine Wk.dk hu (sp_call (vs := [.int .i64 i.op, .int .i64 (s.get i.a), .int .i64 (s.get i.b)]) en_ref08_Calc (fun M w' hh => hcalc w')) ?_
    refine Wk.p mvt ?_
    refine Wk.p extv ?_
    refine Wk.p extv ?_
    refine Wk.p asi ?_
    refine Wk.p asb ?_
    refine Wk.nil ?_
    rw [needs_exIs hu rfl]
    refine Ol.nil ?_
    refine Cd.seq ?_
    refine Cd.seq ?_
    refine Cd.region ?_
    refine Ol.p mvb ?_
    refine Ol.p noti ?_
    refine Ol.nil ?_
    refine Cd.cond rfl (fun h => ?_) (fun h => ?_)
    · have hf : r.2 = false := by
        have h : (!r.2) = true := h
        simpa using h
      refine Cd.seq ?_
      refine Cd.region ?_
      refine Ol.p mvp ?_
      refine Ol.x (sp_callm (vs := [.pointer (some ⟨g, 0, none⟩)]) (Lin := [blk g (.cells (wC F0 F1 (.slice mA s.mem.length mC) a c s) 84)]) (L2 := [blk g3 (.cells i.cells.toArray 25), row (.slice mA s.mem.length mC) 3 1 s.mem.length (ints s.mem)]) en_P_ref08_Run_trap (List.Perm.swap _ _ _) ref08_trap_cm) ?_
      rintro _ _ ⟨_, rfl, rfl, rfl⟩
      refine Ol.nil ?_
      rw [hf]
      exact Cd.ret ⟨_, ret0 rfl, _, .sub (.cons_cons _ (.cons _ (List.Sublist.refl _))), rfl, rfl⟩
    have ht : r.2 = true := by
      have h : (!r.2) = false := h
      simpa using h
    refine Cd.skip ?_
    refine Cd.region ?_
    refine Ol.p mvp ?_
    refine Ol.p (fdl fd_api_Ins_1) ?_
    refine Ol.p (ld (v := .int .i64 i.dst) one_int (Rd.blk (i := 0) (k := 1) rfl rfl)) ?_
    refine Ol.p mvi ?_
    refine Ol.x (sp_callm (vs := [.pointer (some ⟨g, 0, none⟩), .int .i64 i.dst, .int .i64 r.1]) (Lin := [blk g (.cells (wC F0 F1 (.slice mA s.mem.length mC) a c s) 84)]) (L2 := [blk g3 (.cells i.cells.toArray 25), row (.slice mA s.mem.length mC) 3 1 s.mem.length (ints s.mem)]) en_P_ref08_Run_set (List.Perm.swap _ _ _) (hset r.1)) ?_
    rintro _ _ ⟨_, rfl, rfl, rfl⟩
    refine Ol.nil ?_
    exact ⟨⟨rfl, trivial⟩, ht, .sub (.cons_cons _ (.cons _ (List.Sublist.refl _)))⟩
  rintro σ' L' ⟨hs', ht, hkp⟩
  refine Cd.keep hkp ?_
  refine Cd.has hs' ?_
  clear hs'
  obtain ⟨s2, hs2⟩ : ∃ s2, s2 = setsV s i r.1 := ⟨_, rfl⟩
  have hs2i : s2.i = s.i := by rw [hs2]; rfl
  rw [← hs2]
  refine Cd.region ?_
  refine Ol.p mvp ?_
  refine Ol.p nlc ?_
  refine Ol.p (fdl fd_ref08_Run_7) ?_
  refine Ol.p (ld (v := .int .i64 (s2.i : Int)) one_int (Rd.blk (i := 0) (k := 408) rfl wC_i_at)) ?_
  refine Ol.p addi ?_
  refine Ol.p nlc ?_
  refine Ol.p (fdl fd_ref08_Run_7) ?_
  refine Ol.s (sto (i := 0) (k := 408) (v := .int .i64 ((s2.i : Int) + 1)) (.inr sz_int) rfl rfl rfl (by rw [wC_size]; omega) rfl) ?_
  refine Ol.nil ?_
  refine ⟨_, ret0 rfl, _, .all, rfl, ?_⟩
  rw [if_pos ht, ← hs2i, ← wC_i]
  rfl
end
end Go.Proofs.YtjenaenakopicaaGreat

/- Reference 08: loads and stores, walked. -/
namespace Go.Proofs.YtjenaenakopicaaGreat
set_option linter.unusedVariables false
set_option linter.unusedSimpArgs false
open Go Go.RowKit
set_option maxRecDepth 100000
section
set_option maxHeartbeats 2000000 in
theorem ref08_ins_load_cm {w0 : World} {B g mC : Nat} {mA : Option Addr} {F0 F1 a c : Value} {s : RSt} {i : RIns} (hi : isIns i = true) (hop : i.op = 11) (hsp : s.i < 2 ^ 60) (R : Option Nat) (hR : memAt s (wI (s.get i.a + i.imm)) = R) :
    Cm Tryz.prog 64 #[.pointer (some ⟨g, 0, none⟩), i.val] w0 B [blk g (.cells (wC F0 F1 (.slice mA s.mem.length mC) a c s) 84), row (.slice mA s.mem.length mC) 3 1 s.mem.length (ints s.mem)] (fun u L => u = .tuple #[] ∧ L = match R with
      | some q => [blk g (.cells (wC F0 F1 (.slice mA s.mem.length mC) a c { setsV s i (s.mem.getD q 0) with i := s.i + 1 }) 84), row (.slice mA s.mem.length mC) 3 1 s.mem.length (ints s.mem)]
      | none => [blk g (.cells (wC F0 F1 (.slice mA s.mem.length mC) a c { s with e := 2 }) 84), row (.slice mA s.mem.length mC) 3 1 s.mem.length (ints s.mem)]) := by
  obtain ⟨hdst, ha, hb, _⟩ := isIns_parts hi
  have ha2 : 0 ≤ i.a ∧ i.a ≤ 200 := by omega
  obtain ⟨kb, hkb⟩ : ∃ kb : Nat, i.b = (kb : Int) := ⟨i.b.toNat, by omega⟩
  have hvalb := wC_val (F0 := F0) (F1 := F1) (m := .slice mA s.mem.length mC) (a := a) (c := c) (s := s) (k := kb) (by omega)
  rw [← hkb] at hvalb
  obtain ⟨pv, hpv⟩ : ∃ pv, pv = placeV s i := ⟨_, rfl⟩
  have hplace : Cm Tryz.prog 103 #[.pointer (some ⟨g, 0, none⟩), i.val] w0 B [blk g (.cells (wC F0 F1 (.slice mA s.mem.length mC) a c s) 84)] (fun u L => u = .int .i64 pv ∧ L = [blk g (.cells (wC F0 F1 (.slice mA s.mem.length mC) a c s) 84)]) := by
    rw [hpv]
    exact ref08_place_cm ha2
  have hq : ∀ q, R = some q → pv = (q : Int) ∧ q < s.mem.length := fun q e => by
    rw [e] at hR
    refine ⟨by rw [hpv]; unfold placeV; rw [hR], ?_⟩
    unfold memAt at hR
    split at hR
    · have := Option.some.inj hR
      omega
    · cases hR
  have hnone : R = none → pv = -1 := fun e => by
    rw [e] at hR
    rw [hpv]
    unfold placeV
    rw [hR]
  have hd := isIns_dst hi (by omega) (by omega)
  obtain ⟨kd, hkd⟩ : ∃ kd : Nat, i.dst = (kd : Int) := ⟨i.dst.toNat, by omega⟩
  have hset : ∀ v : Int, Cm Tryz.prog 58 #[.pointer (some ⟨g, 0, none⟩), .int .i64 i.dst, .int .i64 v] w0 B [blk g (.cells (wC F0 F1 (.slice mA s.mem.length mC) a c s) 84)] (fun u L => u = .tuple #[] ∧ L = [blk g (.cells (wC F0 F1 (.slice mA s.mem.length mC) a c (setsV s i v)) 84)]) := fun v => by
    unfold setsV
    rw [hkd]
    exact ref08_set_cm (by omega) (by omega)
  refine Cm.mk Tryz.func64 rfl rfl fun M => ?_
  refine Cd.seq ?_
  refine Cd.region ?_
  refine Ol.x bxg ?_
  rintro _ _ ⟨g3, rfl, rfl⟩
  refine Ol.nil ?_
  refine Cd.mid (fun σ' L' => Has σ' [(0, .pointer (some ⟨g, 0, none⟩))] ∧ ∃ q, R = some q ∧ Keep L' [blk g (.cells (wC F0 F1 (.slice mA s.mem.length mC) a c (setsV s i (s.mem.getD q 0))) 84), row (.slice mA s.mem.length mC) 3 1 s.mem.length (ints s.mem)]) ?_ ?_
  · skip
    refine Cd.seq ?_
    refine Cd.region ?_
    refine Ol.p (fdl fd_api_Ins_0) ?_
    refine Ol.p (ld (v := .int .i64 i.op) one_api_Op (Rd.blk (i := 0) (k := 0) rfl rfl)) ?_
    refine Ol.nil ?_
    refine Cd.block ?_
    refine Cd.seq ?_
    refine Cd.region ?_
    refine Ol.p eqi ?_
    refine Ol.p asb ?_
    refine Ol.nil ?_
    refine Cd.cond rfl (fun h => ?_) (fun h => ?_)
    · have h : decide (i.op = 1) = true := h
      have := of_decide_eq_true h
      omega
    refine Cd.seq ?_
    refine Cd.region ?_
    refine Ol.p eqi ?_
    refine Ol.p asb ?_
    refine Ol.nil ?_
    refine Cd.cond rfl (fun h => ?_) (fun h => ?_)
    · have h : decide (i.op = 14) = true := h
      have := of_decide_eq_true h
      omega
    refine Cd.seq ?_
    refine Cd.region ?_
    refine Ol.p eqi ?_
    refine Ol.p asb ?_
    refine Ol.nil ?_
    refine Cd.cond rfl (fun h => ?_) (fun h => absurd hop (of_decide_eq_false h))
    refine Cd.seq ?_
    refine Cd.region ?_
    refine Ol.p mvp ?_
    refine Ol.p (ldw (cs := i.cells.toArray) ag_api_Ins (i := 0) rfl rfl) ?_
    refine Ol.x (sp_callm (vs := [.pointer (some ⟨g, 0, none⟩), i.val]) (Lin := [blk g (.cells (wC F0 F1 (.slice mA s.mem.length mC) a c s) 84)]) (L2 := [blk g3 (.cells i.cells.toArray 25), row (.slice mA s.mem.length mC) 3 1 s.mem.length (ints s.mem)]) en_P_ref08_Run_place (List.Perm.swap _ _ _) hplace) ?_
    rintro _ _ ⟨_, rfl, rfl, rfl⟩
    refine Ol.p asi ?_
    refine Ol.nil ?_
    refine Cd.seq ?_
    refine Cd.seq ?_
    refine Cd.region ?_
    refine Ol.p mvi ?_
    refine Ol.p lsi ?_
    refine Ol.nil ?_
    refine Cd.cond rfl (fun h => ?_) (fun h => ?_)
    · have h : decide (pv < 0) = true := h
      have hlt := of_decide_eq_true h
      have hRn : R = none := by
        cases hRR : R with
        | none => rfl
        | some q => have := (hq q hRR).1; omega
      refine Cd.seq ?_
      refine Cd.region ?_
      refine Ol.p mvp ?_
      refine Ol.x (sp_callm (vs := [.pointer (some ⟨g, 0, none⟩)]) (Lin := [blk g (.cells (wC F0 F1 (.slice mA s.mem.length mC) a c s) 84)]) (L2 := [blk g3 (.cells i.cells.toArray 25), row (.slice mA s.mem.length mC) 3 1 s.mem.length (ints s.mem)]) en_P_ref08_Run_trap (.refl _) ref08_trap_cm) ?_
      rintro _ _ ⟨_, rfl, rfl, rfl⟩
      refine Ol.nil ?_
      subst hRn
      exact Cd.ret ⟨_, ret0 rfl, _, .sub (.cons_cons _ (.cons _ (List.Sublist.refl _))), rfl, rfl⟩
    have h : decide (pv < 0) = false := h
    have hge := of_decide_eq_false h
    obtain ⟨q, hRq⟩ : ∃ q, R = some q := by
      cases hRR : R with
      | none => have := hnone hRR; omega
      | some q => exact ⟨q, rfl⟩
    obtain ⟨hpq, hql⟩ := hq q hRq
    refine Cd.skip ?_
    have hmq : (ints s.mem)[q]? = some (.int .i64 (s.mem.getD q 0)) := by
      unfold ints
      rw [List.getElem?_map, List.getElem?_eq_getElem hql]
      simp [List.getD, List.getElem?_eq_getElem hql]
    refine Cd.draw mixed 10 (fun _ => none) (fun _ => []) (by kernel_rfl) (fun _ _ h => by cases h) (fun u hu => ?_)
    refine Wk.p mvp ?_
    refine Wk.p (fdl fd_api_Ins_1) ?_
    refine Wk.p (ld (v := .int .i64 i.dst) one_int (Rd.blk (i := 1) (k := 1) rfl rfl)) ?_
    refine Wk.p mvp ?_
    refine Wk.p nlc ?_
    refine Wk.p (fdl fd_ref08_Run_3) ?_
    refine Wk.p (ld (v := .slice mA s.mem.length mC) one_L_int (Rd.blk (i := 0) (k := 404) rfl wC_m_at)) ?_
    refine Wk.p mvi ?_
    refine Wk.p (ixn1 (ix := q) sl_L_int (Som.row (i := 2) rfl (by omega)) (hy := congrArg (Value.int .i64) hpq)) ?_
    refine Wk.p (ld (v := .int .i64 (s.mem.getD q 0)) one_int (Rd.row (i := 2) rfl hmq)) ?_
    refine Wk.nil ?_
    refine Ol.x (sp_callm (vs := [.pointer (some ⟨g, 0, none⟩), .int .i64 i.dst, .int .i64 (s.mem.getD q 0)]) (Lin := [blk g (.cells (wC F0 F1 (.slice mA s.mem.length mC) a c s) 84)]) (L2 := [blk g3 (.cells i.cells.toArray 25), row (.slice mA s.mem.length mC) 3 1 s.mem.length (ints s.mem)]) en_P_ref08_Run_set (.refl _) (hset (s.mem.getD q 0))) ?_
    rintro _ _ ⟨_, rfl, rfl, rfl⟩
    refine Ol.nil ?_
    exact ⟨⟨rfl, trivial⟩, q, hRq, .sub (.cons_cons _ (.cons _ (List.Sublist.refl _)))⟩
  rintro σ' L' ⟨hs', q, hRq, hkp⟩
  refine Cd.keep hkp ?_
  refine Cd.has hs' ?_
  clear hs'
  subst hRq
  obtain ⟨s2, hs2⟩ : ∃ s2, s2 = (setsV s i (s.mem.getD q 0)) := ⟨_, rfl⟩
  have hs2i : s2.i = s.i := by rw [hs2]; rfl
  rw [← hs2]
  refine Cd.region ?_
  refine Ol.p mvp ?_
  refine Ol.p nlc ?_
  refine Ol.p (fdl fd_ref08_Run_7) ?_
  refine Ol.p (ld (v := .int .i64 (s2.i : Int)) one_int (Rd.blk (i := 0) (k := 408) rfl wC_i_at)) ?_
  refine Ol.p addi ?_
  refine Ol.p nlc ?_
  refine Ol.p (fdl fd_ref08_Run_7) ?_
  refine Ol.s (sto (i := 0) (k := 408) (v := .int .i64 ((s2.i : Int) + 1)) (.inr sz_int) rfl rfl rfl (by rw [wC_size]; omega) rfl) ?_
  refine Ol.nil ?_
  refine ⟨_, ret0 rfl, _, .all, rfl, ?_⟩
  have hfin : { setsV s i (s.mem.getD q 0) with i := s.i + 1 } = { s2 with i := s.i + 1 } := by rw [hs2]
  show _ = [blk g (.cells (wC F0 F1 (.slice mA s.mem.length mC) a c { setsV s i (s.mem.getD q 0) with i := s.i + 1 }) 84), row (.slice mA s.mem.length mC) 3 1 s.mem.length (ints s.mem)]
  rw [hfin, ← hs2i, ← wC_i (s := s2) (n := s2.i + 1)]
  rfl
set_option maxHeartbeats 2000000 in
theorem ref08_ins_store_cm {w0 : World} {B g mC : Nat} {mA : Option Addr} {F0 F1 a c : Value} {s : RSt} {i : RIns} (hi : isIns i = true) (hop : i.op = 12) (hsp : s.i < 2 ^ 60) (R : Option Nat) (hR : memAt s (wI (s.get i.a + i.imm)) = R) :
    Cm Tryz.prog 64 #[.pointer (some ⟨g, 0, none⟩), i.val] w0 B [blk g (.cells (wC F0 F1 (.slice mA s.mem.length mC) a c s) 84), row (.slice mA s.mem.length mC) 3 1 s.mem.length (ints s.mem)] (fun u L => u = .tuple #[] ∧ L = match R with
      | some q => [blk g (.cells (wC F0 F1 (.slice mA s.mem.length mC) a c { s with mem := s.mem.set q (s.get i.b), i := s.i + 1 }) 84), row (.slice mA s.mem.length mC) 3 1 s.mem.length (ints (s.mem.set q (s.get i.b)))]
      | none => [blk g (.cells (wC F0 F1 (.slice mA s.mem.length mC) a c { s with e := 2 }) 84), row (.slice mA s.mem.length mC) 3 1 s.mem.length (ints s.mem)]) := by
  obtain ⟨hdst, ha, hb, _⟩ := isIns_parts hi
  have ha2 : 0 ≤ i.a ∧ i.a ≤ 200 := by omega
  obtain ⟨kb, hkb⟩ : ∃ kb : Nat, i.b = (kb : Int) := ⟨i.b.toNat, by omega⟩
  have hvalb := wC_val (F0 := F0) (F1 := F1) (m := .slice mA s.mem.length mC) (a := a) (c := c) (s := s) (k := kb) (by omega)
  rw [← hkb] at hvalb
  obtain ⟨pv, hpv⟩ : ∃ pv, pv = placeV s i := ⟨_, rfl⟩
  have hplace : Cm Tryz.prog 103 #[.pointer (some ⟨g, 0, none⟩), i.val] w0 B [blk g (.cells (wC F0 F1 (.slice mA s.mem.length mC) a c s) 84)] (fun u L => u = .int .i64 pv ∧ L = [blk g (.cells (wC F0 F1 (.slice mA s.mem.length mC) a c s) 84)]) := by
    rw [hpv]
    exact ref08_place_cm ha2
  have hq : ∀ q, R = some q → pv = (q : Int) ∧ q < s.mem.length := fun q e => by
    rw [e] at hR
    refine ⟨by rw [hpv]; unfold placeV; rw [hR], ?_⟩
    unfold memAt at hR
    split at hR
    · have := Option.some.inj hR
      omega
    · cases hR
  have hnone : R = none → pv = -1 := fun e => by
    rw [e] at hR
    rw [hpv]
    unfold placeV
    rw [hR]
  refine Cm.mk Tryz.func64 rfl rfl fun M => ?_
  refine Cd.seq ?_
  refine Cd.region ?_
  refine Ol.x bxg ?_
  rintro _ _ ⟨g3, rfl, rfl⟩
  refine Ol.nil ?_
  refine Cd.mid (fun σ' L' => Has σ' [(0, .pointer (some ⟨g, 0, none⟩))] ∧ ∃ q, R = some q ∧ Keep L' [blk g (.cells (wC F0 F1 (.slice mA s.mem.length mC) a c { s with mem := s.mem.set q (s.get i.b) }) 84), row (.slice mA s.mem.length mC) 3 1 s.mem.length (ints (s.mem.set q (s.get i.b)))]) ?_ ?_
  · skip
    refine Cd.seq ?_
    refine Cd.region ?_
    refine Ol.p (fdl fd_api_Ins_0) ?_
    refine Ol.p (ld (v := .int .i64 i.op) one_api_Op (Rd.blk (i := 0) (k := 0) rfl rfl)) ?_
    refine Ol.nil ?_
    refine Cd.block ?_
    refine Cd.seq ?_
    refine Cd.region ?_
    refine Ol.p eqi ?_
    refine Ol.p asb ?_
    refine Ol.nil ?_
    refine Cd.cond rfl (fun h => ?_) (fun h => ?_)
    · have h : decide (i.op = 1) = true := h
      have := of_decide_eq_true h
      omega
    refine Cd.seq ?_
    refine Cd.region ?_
    refine Ol.p eqi ?_
    refine Ol.p asb ?_
    refine Ol.nil ?_
    refine Cd.cond rfl (fun h => ?_) (fun h => ?_)
    · have h : decide (i.op = 14) = true := h
      have := of_decide_eq_true h
      omega
    refine Cd.seq ?_
    refine Cd.region ?_
    refine Ol.p eqi ?_
    refine Ol.p asb ?_
    refine Ol.nil ?_
    refine Cd.cond rfl (fun h => ?_) (fun h => ?_)
    · have h : decide (i.op = 11) = true := h
      have := of_decide_eq_true h
      omega
    refine Cd.seq ?_
    refine Cd.region ?_
    refine Ol.p eqi ?_
    refine Ol.p asb ?_
    refine Ol.nil ?_
    refine Cd.cond rfl (fun h => ?_) (fun h => absurd hop (of_decide_eq_false h))
    refine Cd.seq ?_
    refine Cd.region ?_
    refine Ol.p mvp ?_
    refine Ol.p (ldw (cs := i.cells.toArray) ag_api_Ins (i := 0) rfl rfl) ?_
    refine Ol.x (sp_callm (vs := [.pointer (some ⟨g, 0, none⟩), i.val]) (Lin := [blk g (.cells (wC F0 F1 (.slice mA s.mem.length mC) a c s) 84)]) (L2 := [blk g3 (.cells i.cells.toArray 25), row (.slice mA s.mem.length mC) 3 1 s.mem.length (ints s.mem)]) en_P_ref08_Run_place (List.Perm.swap _ _ _) hplace) ?_
    rintro _ _ ⟨_, rfl, rfl, rfl⟩
    refine Ol.p asi ?_
    refine Ol.nil ?_
    refine Cd.seq ?_
    refine Cd.seq ?_
    refine Cd.region ?_
    refine Ol.p mvi ?_
    refine Ol.p lsi ?_
    refine Ol.nil ?_
    refine Cd.cond rfl (fun h => ?_) (fun h => ?_)
    · have h : decide (pv < 0) = true := h
      have hlt := of_decide_eq_true h
      have hRn : R = none := by
        cases hRR : R with
        | none => rfl
        | some q => have := (hq q hRR).1; omega
      refine Cd.seq ?_
      refine Cd.region ?_
      refine Ol.p mvp ?_
      refine Ol.x (sp_callm (vs := [.pointer (some ⟨g, 0, none⟩)]) (Lin := [blk g (.cells (wC F0 F1 (.slice mA s.mem.length mC) a c s) 84)]) (L2 := [blk g3 (.cells i.cells.toArray 25), row (.slice mA s.mem.length mC) 3 1 s.mem.length (ints s.mem)]) en_P_ref08_Run_trap (.refl _) ref08_trap_cm) ?_
      rintro _ _ ⟨_, rfl, rfl, rfl⟩
      refine Ol.nil ?_
      subst hRn
      exact Cd.ret ⟨_, ret0 rfl, _, .sub (.cons_cons _ (.cons _ (List.Sublist.refl _))), rfl, rfl⟩
    have h : decide (pv < 0) = false := h
    have hge := of_decide_eq_false h
    obtain ⟨q, hRq⟩ : ∃ q, R = some q := by
      cases hRR : R with
      | none => have := hnone hRR; omega
      | some q => exact ⟨q, rfl⟩
    obtain ⟨hpq, hql⟩ := hq q hRq
    refine Cd.skip ?_
    refine Cd.draw mixed 13 (fun _ => none) (fun _ => []) (by kernel_rfl) (fun _ _ h => by cases h) (fun u hu => ?_)
    refine Wk.p mvp ?_
    refine Wk.p nlc ?_
    refine Wk.p (fdl fd_ref08_Run_3) ?_
    refine Wk.p (ld (v := .slice mA s.mem.length mC) one_L_int (Rd.blk (i := 0) (k := 404) rfl wC_m_at)) ?_
    refine Wk.p mvi ?_
    refine Wk.p mvp ?_
    refine Wk.p (fdl fd_api_Ins_3) ?_
    refine Wk.p (ld (v := .int .i64 i.b) one_int (Rd.blk (i := 1) (k := 3) rfl rfl)) ?_
    refine Wk.p nlc ?_
    refine Wk.p (fdl fd_ref08_Run_1) ?_
    refine Wk.p (ixl (off := 2) (ix := kb) ar_A201_int (hy := congrArg (Value.int .i64) hkb)) ?_
    refine Wk.p (ld (v := .int .i64 (s.get i.b)) one_int (Rd.blk (i := 0) rfl hvalb)) ?_
    refine Wk.p (ixn1 (ix := q) sl_L_int (Som.row (i := 2) rfl (by omega)) (hy := congrArg (Value.int .i64) hpq)) ?_
    refine Wk.nil ?_
    refine Ol.s (str (i := 2) (k := q) (v := .int .i64 (s.get i.b)) sz_int rfl rfl rfl (by rw [show (ints s.mem).length = s.mem.length by simp [ints]]; exact hql) rfl) ?_
    refine Ol.nil ?_
    exact ⟨⟨rfl, trivial⟩, q, hRq, by rw [← ints_set]; exact .sub (.cons_cons _ (.cons _ (List.Sublist.refl _)))⟩
  rintro σ' L' ⟨hs', q, hRq, hkp⟩
  refine Cd.keep hkp ?_
  refine Cd.has hs' ?_
  clear hs'
  subst hRq
  obtain ⟨s2, hs2⟩ : ∃ s2, s2 = { s with mem := s.mem.set q (s.get i.b) } := ⟨_, rfl⟩
  have hs2i : s2.i = s.i := by rw [hs2]
  rw [← hs2]
  refine Cd.region ?_
  refine Ol.p mvp ?_
  refine Ol.p nlc ?_
  refine Ol.p (fdl fd_ref08_Run_7) ?_
  refine Ol.p (ld (v := .int .i64 (s2.i : Int)) one_int (Rd.blk (i := 0) (k := 408) rfl wC_i_at)) ?_
  refine Ol.p addi ?_
  refine Ol.p nlc ?_
  refine Ol.p (fdl fd_ref08_Run_7) ?_
  refine Ol.s (sto (i := 0) (k := 408) (v := .int .i64 ((s2.i : Int) + 1)) (.inr sz_int) rfl rfl rfl (by rw [wC_size]; omega) rfl) ?_
  refine Ol.nil ?_
  refine ⟨_, ret0 rfl, _, .all, rfl, ?_⟩
  have hfin : { s with mem := s.mem.set q (s.get i.b), i := s.i + 1 } = { s2 with i := s.i + 1 } := by rw [hs2]
  show _ = [blk g (.cells (wC F0 F1 (.slice mA s.mem.length mC) a c { s with mem := s.mem.set q (s.get i.b), i := s.i + 1 }) 84), row (.slice mA s.mem.length mC) 3 1 s.mem.length (ints (s.mem.set q (s.get i.b)))]
  rw [hfin, ← hs2i, ← wC_i (s := s2) (n := s2.i + 1)]
  rfl
end
end Go.Proofs.YtjenaenakopicaaGreat

/- A region whose order is drawn, in which an operation may take what another one made, or what was there (tokens), and turn it: one walk serves every order. -/
namespace Go.Proofs.YtjenaenakopicaaGreat
set_option linter.unusedVariables false
open Go Go.RowKit

def liveU (tk : Nat → List Nat) (E : List Nat) : List Nat := E.filter fun c => !(E.any fun k => decide (c ∈ tk k))
theorem mem_liveU {tk : Nat → List Nat} {E : List Nat} {c : Nat} : c ∈ liveU tk E ↔ c ∈ E ∧ ∀ k ∈ E, c ∉ tk k := by
  unfold liveU
  simp [List.mem_filter]
def WkU (C : Ctx) (all : Array Oper) (ex : Nat → Option (Value → List Res → Prop)) (nd : Nat → List Nat) (tk : Nat → List Nat) (u : Got) (L0 : List Res) : Nat → List Oper → Env → List Nat → (Env → List Nat → Prop) → Prop
  | _, [], σ, E, K => K σ E
  | k, o :: rest, σ, E, K =>
    bif wants all σ o then
      (∀ c ∈ nd k, c ∈ liveU tk E) ∧ okDst C.N o.dst = true ∧
      match ex k with
      | some V => Sp C.P C.w0 C.B o σ (needs u (nd k) L0) (Adds V (needs u ((nd k).filter fun c => !decide (c ∈ tk k)) L0)) ∧ WkU C all ex nd tk u L0 (k + 1) rest (updO σ o.dst (u k).1) (k :: E) K
      | none => ∃ v, Sd C.P C.w0 C.B o σ (needs u (nd k) L0) v ∧ WkU C all ex nd tk u L0 (k + 1) rest (updO σ o.dst v) E K
    else okDst C.N o.dst = true ∧ WkU C all ex nd tk u L0 (k + 1) rest (updO σ o.dst undef) E K
def StepU (C : Ctx) (all : Array Oper) (ex : Nat → Option (Value → List Res → Prop)) (nd : Nat → List Nat) (tk : Nat → List Nat) (u : Got) (L0 : List Res) (k : Nat) (o : Oper) (σ : Env) (E : List Nat) (v : Value) : Prop :=
  okDst C.N o.dst = true ∧
  ((wants all σ o = true ∧ (∀ c ∈ nd k, c ∈ liveU tk E) ∧ ((∃ V, ex k = some V ∧ v = (u k).1 ∧ Sp C.P C.w0 C.B o σ (needs u (nd k) L0) (Adds V (needs u ((nd k).filter fun c => !decide (c ∈ tk k)) L0))) ∨ (ex k = none ∧ Sd C.P C.w0 C.B o σ (needs u (nd k) L0) v))) ∨
   (wants all σ o = false ∧ v = undef))
theorem WkU.vals {C : Ctx} {all : Array Oper} {ex : Nat → Option (Value → List Res → Prop)} {nd : Nat → List Nat} {tk : Nat → List Nat} {u : Got} {L0 : List Res} {K : Env → List Nat → Prop} :
    ∀ (l : List Oper) (k : Nat) (σ : Env) (E : List Nat), WkU C all ex nd tk u L0 k l σ E K →
      ∃ vs : List Value, vs.length = l.length ∧ (∀ i o v, l[i]? = some o → vs[i]? = some v → StepU C all ex nd tk u L0 (k + i) o (envAt (l.take i) (vs.take i) σ) (exAt all ex k (l.take i) (vs.take i) σ E) v) ∧ K (envAt l vs σ) (exAt all ex k l vs σ E)
  | [], k, σ, E, h => ⟨[], rfl, fun i o v h => by simp at h, h⟩
  | o :: l, k, σ, E, h => by
    have key : ∀ v E', StepU C all ex nd tk u L0 k o σ E v → E' = made all ex k o σ E → WkU C all ex nd tk u L0 (k + 1) l (updO σ o.dst v) E' K →
        ∃ vs : List Value, vs.length = (o :: l).length ∧ (∀ i o' v, (o :: l)[i]? = some o' → vs[i]? = some v → StepU C all ex nd tk u L0 (k + i) o' (envAt ((o :: l).take i) (vs.take i) σ) (exAt all ex k ((o :: l).take i) (vs.take i) σ E) v) ∧ K (envAt (o :: l) vs σ) (exAt all ex k (o :: l) vs σ E) := by
      rintro v E' hs rfl hw
      obtain ⟨vs, h1, h2, h3⟩ := WkU.vals l (k + 1) _ _ hw
      refine ⟨v :: vs, by simp [h1], ?_, h3⟩
      intro i o' v' hi hv
      cases i with
      | zero =>
        simp only [List.getElem?_cons_zero, Option.some.injEq] at hi hv
        subst hi; subst hv
        exact hs
      | succ i =>
        have := h2 i o' v' (by simpa using hi) (by simpa using hv)
        rw [show k + 1 + i = k + (i + 1) from by omega] at this
        exact this
    unfold WkU at h
    cases hw : wants all σ o with
    | true =>
      simp only [hw, cond_true] at h
      obtain ⟨hn, hd, h⟩ := h
      cases hx : ex k with
      | some V =>
        simp only [hx] at h
        exact key (u k).1 (k :: E) ⟨hd, .inl ⟨hw, hn, .inl ⟨V, hx, rfl, h.1⟩⟩⟩ (by simp [made, hw, hx]) h.2
      | none =>
        simp only [hx] at h
        obtain ⟨v, hs, h⟩ := h
        exact key v E ⟨hd, .inl ⟨hw, hn, .inr ⟨hx, hs⟩⟩⟩ (by simp [made, hx]) h
    | false =>
      simp only [hw, cond_false] at h
      exact key undef E ⟨h.1, .inr ⟨hw, rfl⟩⟩ (by simp [made, hw]) h.2

/-! ### What must be so: a closed test -/
def drawOkU (ops : Array Oper) (m : Nat) (nd : Nat → List Nat) (tk : Nat → List Nat) (E0 : List Nat) : Bool :=
  let b := bef ops
  drawOk ops m (fun k => (nd k).filter fun c => Nat.blt c 1000) && Nat.ble ops.size 1000 && (E0.eraseDups.length == E0.length) && E0.all (fun c => Nat.ble 1000 c && (tk c).isEmpty) &&
  (List.range m).all fun k => ((nd k).eraseDups.length == (nd k).length) && (nd k).all (fun c => Nat.blt c 1000 || E0.contains c) &&
    (tk k).all fun c => (nd k).contains c && !(Nat.beq c k) && (List.range m).all fun j => Nat.beq j k || !(nd j).contains c || (Nat.blt j k && (b.getD k 0).testBit j)
structure OkU (ops : Array Oper) (m : Nat) (nd : Nat → List Nat) (tk : Nat → List Nat) (E0 : List Nat) : Prop where
  ok : Ok ops m (fun k => (nd k).filter fun c => Nat.blt c 1000)
  big : ops.size ≤ 1000
  e0 : E0.Nodup
  tok : ∀ c ∈ E0, 1000 ≤ c ∧ tk c = []
  nodu : ∀ k, k < m → (nd k).Nodup
  has : ∀ k, k < m → ∀ c ∈ nd k, c < 1000 ∨ c ∈ E0
  tak : ∀ k, k < m → ∀ c, c ∈ tk k → c ∈ nd k ∧ c ≠ k ∧ ∀ j, j < m → j ≠ k → c ∈ nd j → j < k ∧ Anc ops k j
theorem OkU.mk' {ops : Array Oper} {m : Nat} {nd : Nat → List Nat} {tk : Nat → List Nat} {E0 : List Nat} (h : drawOkU ops m nd tk E0 = true) : OkU ops m nd tk E0 := by
  unfold drawOkU at h
  simp only [Bool.and_eq_true, List.all_eq_true, beq_iff_eq, List.mem_range] at h
  obtain ⟨⟨⟨⟨h1, h2⟩, h3⟩, h4⟩, h5⟩ := h
  have blt_lt : ∀ {a b : Nat}, Nat.blt a b = true → a < b := fun h => Nat.le_of_ble_eq_true h
  refine ⟨Ok.mk' h1, Nat.le_of_ble_eq_true h2, eraseDups_nodup h3, fun c hc => ⟨Nat.le_of_ble_eq_true (h4 c hc).1, by simpa using (h4 c hc).2⟩, fun k hk => eraseDups_nodup (h5 k hk).1.1, fun k hk c hc => ?_, fun k hk c hc => ?_⟩
  · have := (h5 k hk).1.2 c hc
    simp only [Bool.or_eq_true, List.contains_eq_mem, decide_eq_true_eq] at this
    exact this.imp blt_lt id
  · have := (h5 k hk).2 c hc
    simp only [Bool.and_eq_true, List.contains_eq_mem, decide_eq_true_eq, List.all_eq_true, List.mem_range, Bool.or_eq_true, Bool.not_eq_true', decide_eq_false_iff_not] at this
    obtain ⟨⟨h6, h7⟩, h8⟩ := this
    refine ⟨h6, fun e => ?_, fun j hj hne hcj => ?_⟩
    · subst e
      simp [Nat.beq_refl] at h7
    · rcases h8 j hj with (h9 | h9) | h9
      · exact absurd (Nat.eq_of_beq_eq_true h9) hne
      · exact absurd hcj h9
      · exact ⟨blt_lt h9.1, bef_anc h9.2⟩

/-! ### Every order -/
section
variable {C : Ctx} {l : List Oper} {m : Nat} {nd : Nat → List Nat} {tk : Nat → List Nat} {E0 : List Nat} {ex : Nat → Option (Value → List Res → Prop)} {σ : Env} {L0 : List Res} {K : Env → List Nat → Prop}
structure GoodU (C : Ctx) (l : List Oper) (m : Nat) (ex : Nat → Option (Value → List Res → Prop)) (nd : Nat → List Nat) (tk : Nat → List Nat) (E0 : List Nat) (L0 : List Res) (σ : Env) (K : Got → Env → List Nat → Prop) (u : Got) (vs : List Value) : Prop where
  len : vs.length = (l.take m).length
  step : ∀ (i : Nat) (o : Oper) (v : Value), (l.take m)[i]? = some o → vs[i]? = some v → StepU C l.toArray ex nd tk u L0 i o (envAt ((l.take m).take i) (vs.take i) σ) (exAt l.toArray ex 0 ((l.take m).take i) (vs.take i) σ E0) v
  fin : K u (envAt (l.take m) vs σ) (exAt l.toArray ex 0 (l.take m) vs σ E0)
structure MidU (C : Ctx) (l : List Oper) (m : Nat) (ex : Nat → Option (Value → List Res → Prop)) (nd : Nat → List Nat) (tk : Nat → List Nat) (E0 : List Nat) (L0 : List Res) (σ : Env) (K : Got → Env → List Nat → Prop) (listed : Array Bool) (u : Got) (Ex : List Nat) (a : Act) (w : World) : Prop where
  size : a.tmps.size = C.N
  valid : Valid ex u
  nodup : Ex.Nodup
  sub : ∀ c ∈ Ex, (c < m ∧ Ls listed c) ∨ c ∈ E0
  old : ∀ c ∈ E0, c ∈ Ex
  base : ∀ t, (∀ (j : Nat) (o : Oper), j < m → l[j]? = some o → Ls listed j → o.dst ≠ some t) → a.tmps.getD t undef = σ t
  vals : ∀ u', Valid ex u' → (∀ c ∈ Ex, u' c = u c) → ∀ vs, GoodU C l m ex nd tk E0 L0 σ K u' vs → ∀ (j : Nat) (o : Oper) (v : Value), j < m → l[j]? = some o → vs[j]? = some v → Ls listed j →
    (∀ t, o.dst = some t → a.tmps.getD t undef = v) ∧ (j ∈ Ex ↔ j ∈ exAt l.toArray ex 0 (l.take m) vs σ E0)
  heap : Hp C.w0 C.B (hid C a ++ needs u (liveU tk Ex) L0) w
theorem MidU.read {Kk : Got → Env → List Nat → Prop} {listed : Array Bool} {u : Got} {Ex : List Nat} {a : Act} {w : World} (ok : OkU l.toArray m nd tk E0) (h : MidU C l m ex nd tk E0 L0 σ Kk listed u Ex a w) (hc : Shut l.toArray listed) {i : Nat} (hi : i ∈ Region.ready .any l.toArray listed) (him : i < m) {o : Oper} (ho : l[i]? = some o)
    {u' : Got} (hu' : Valid ex u') (hag : ∀ c ∈ Ex, u' c = u c) {vs : List Value} (hg : GoodU C l m ex nd tk E0 L0 σ Kk u' vs) {t : Nat} (ht : ∀ (j : Nat) (o' : Oper), j < m → l[j]? = some o' → o'.dst = some t → j < i ∧ Anc l.toArray i j) :
    a.tmps.getD t undef = envAt ((l.take m).take i) (vs.take i) σ t := by
  by_cases hex : ∃ (j : Nat) (o' : Oper), j < m ∧ l[j]? = some o' ∧ o'.dst = some t
  · obtain ⟨j, o', hjm, hj, hd⟩ := hex
    obtain ⟨hlt, hanc⟩ := ht j o' hjm hj hd
    have hls := ready_anc hc hi hanc
    have hvl : j < vs.length := by
      rw [hg.len, List.length_take]
      have : j < l.length := (List.getElem?_eq_some_iff.1 hj).1
      omega
    have hv : vs[j]? = some vs[j] := List.getElem?_eq_getElem hvl
    rw [((h.vals u' hu' hag vs hg j o' _ hjm hj hv hls).1 t hd)]
    refine (envAt_one _ _ _ t j o' vs[j] ?_ ?_ hd ?_).symm
    · rw [List.getElem?_take, if_pos hlt]; exact take_get hjm hj
    · rw [List.getElem?_take, if_pos hlt]; exact hv
    · intro j' o'' hj' hne hd'
      obtain ⟨_, h2, h3⟩ := take_take_get hj'
      exact ok.ok.uniq j' o'' h2 (by simpa using h3) j o' hjm (by simpa using hj) (fun e => hne e.symm) t hd hd'
  · rw [h.base t (fun j o' hj ho' _ hd => hex ⟨j, o', hj, ho', hd⟩)]
    refine (envAt_none _ _ _ t fun j o' hj hd => ?_).symm
    obtain ⟨_, h2, h3⟩ := take_take_get hj
    exact hex ⟨j, o', h2, h3, hd⟩
theorem exAt_atU {vs : List Value} {i : Nat} {o : Oper} {v : Value} (hE : i ∉ E0) (ho : (l.take m)[i]? = some o) (hv : vs[i]? = some v) : i ∈ exAt l.toArray ex 0 (l.take m) vs σ E0 ↔ wants l.toArray (envAt ((l.take m).take i) (vs.take i) σ) o = true ∧ (ex i).isSome = true := by
  rw [exAt_mem]
  constructor
  · rintro (h | ⟨i', o', v', h1, h2, h3, h4, h5⟩)
    · exact absurd h hE
    · obtain rfl : i = i' := by omega
      rw [ho] at h1; cases h1
      exact ⟨h4, h5⟩
  · rintro ⟨h1, h2⟩
    exact .inr ⟨i, o, v, ho, hv, by omega, h1, h2⟩
theorem MidU.put {Kk : Got → Env → List Nat → Prop} {listed : Array Bool} {u u1 : Got} {Ex Ex1 : List Nat} {a : Act} {w w' : World} {i : Nat} {o : Oper} {v : Value} (ok : OkU l.toArray m nd tk E0) (h : MidU C l m ex nd tk E0 L0 σ Kk listed u Ex a w) (hlt : i < listed.size) (hi : ¬ Ls listed i) (him : i < m) (ho : l[i]? = some o) (hd : okDst C.N o.dst = true)
    (hv1 : Valid ex u1) (hnd : Ex1.Nodup) (hcase : (Ex1 = Ex ∧ u1 = u) ∨ (Ex1 = i :: Ex ∧ ∀ c ∈ Ex, u1 c = u c))
    (hvi : ∀ u', Valid ex u' → (∀ c ∈ Ex1, u' c = u1 c) → ∀ vs, GoodU C l m ex nd tk E0 L0 σ Kk u' vs → ∀ v', vs[i]? = some v' → v' = v ∧ (i ∈ Ex1 ↔ i ∈ exAt l.toArray ex 0 (l.take m) vs σ E0))
    (hh : Hp C.w0 C.B (hid C a ++ needs u1 (liveU tk Ex1) L0) w') : MidU C l m ex nd tk E0 L0 σ Kk (listed.setIfInBounds i true) u1 Ex1 (a.put o.dst v) w' := by
  refine ⟨by rw [put_size]; exact h.size, hv1, hnd, ?_, ?_, ?_, ?_, by rw [hid_put]; exact hh⟩
  · intro c hc
    rw [Ls.set_iff hlt]
    rcases hcase with ⟨rfl, _⟩ | ⟨rfl, _⟩
    · exact (h.sub c hc).imp (fun ⟨h1, h2⟩ => ⟨h1, .inr h2⟩) id
    · rcases List.mem_cons.1 hc with rfl | hc
      · exact .inl ⟨him, .inl rfl⟩
      · exact (h.sub c hc).imp (fun ⟨h1, h2⟩ => ⟨h1, .inr h2⟩) id
  · intro c hc
    rcases hcase with ⟨rfl, _⟩ | ⟨rfl, _⟩
    · exact h.old c hc
    · exact List.mem_cons_of_mem _ (h.old c hc)
  · intro t ht
    rw [put_read h.size hd, if_neg (ht i o him ho ((Ls.set_iff hlt).2 (.inl rfl)))]
    exact h.base t (fun j o' hj ho' hl => ht j o' hj ho' ((Ls.set_iff hlt).2 (.inr hl)))
  · intro u' hu' hag vs hg j o' v' hj ho' hv' hl
    have hag' : ∀ c ∈ Ex, u' c = u c := fun c hc => by
      rcases hcase with ⟨rfl, rfl⟩ | ⟨rfl, h2⟩
      · exact hag c hc
      · rw [hag c (by simp [hc]), h2 c hc]
    by_cases hij : j = i
    · subst hij
      rw [ho] at ho'; cases ho'
      obtain ⟨h1, h2⟩ := hvi u' hu' hag vs hg v' hv'
      subst h1
      exact ⟨fun t ht => by rw [put_read h.size hd, if_pos ht], h2⟩
    · rw [Ls.set_iff hlt] at hl
      have hl := hl.resolve_left hij
      obtain ⟨h1, h2⟩ := h.vals u' hu' hag' vs hg j o' v' hj ho' hv' hl
      refine ⟨fun t ht => ?_, ?_⟩
      · rw [put_read h.size hd, if_neg (ok.ok.uniq i o him (by simpa using ho) j o' hj (by simpa using ho') hij t ht)]
        exact h1 t ht
      · rw [← h2]
        rcases hcase with ⟨rfl, _⟩ | ⟨rfl, _⟩
        · exact Iff.rfl
        · simp [hij]
theorem liveU_perm {E E' : List Nat} (h : E.Perm E') : (liveU tk E).Perm (liveU tk E') := by
  unfold liveU
  have : (fun c => !(E.any fun k => decide (c ∈ tk k))) = fun c => !(E'.any fun k => decide (c ∈ tk k)) := by
    funext c
    congr 1
    rw [Bool.eq_iff_iff, List.any_eq_true, List.any_eq_true]
    exact ⟨fun ⟨k, h1, h2⟩ => ⟨k, h.mem_iff.1 h1, h2⟩, fun ⟨k, h1, h2⟩ => ⟨k, h.mem_iff.2 h1, h2⟩⟩
  rw [this]
  exact h.filter _
theorem needs_permU {u : Got} {E E' : List Nat} (h : E.Perm E') : (needs u E L0).Perm (needs u E' L0) := by
  unfold needs
  exact List.Perm.append_right _ (List.Perm.flatMap_right _ h)
theorem tail_anyU (ok : OkU l.toArray m nd tk E0) {F : Fence} {Q : Exit → Act → World → Prop} (fuel j : Nat) (listed : Array Bool) (a : Act) (w : World) (h1 : listed.size = l.length) (h2 : Shut l.toArray listed) (h3 : ∀ k, Ls listed k ↔ k < j) (h4 : m ≤ j) (h5 : j ≤ l.length) (h6 : l.length ≤ j + fuel)
    (h : wpListIn F 0 C.P l.toArray Q (l.drop j) a w) : wpAnyIn F 0 C.P .any l.toArray Q fuel listed a w := tail_any ok.ok fuel j listed a w h1 h2 h3 h4 h5 h6 h
theorem draw_endU {Q : Exit → Act → World → Prop} {Kk : Got → Env → List Nat → Prop} (ok : OkU l.toArray m nd tk E0) (hgood : ∀ u, Valid ex u → ∃ vs, GoodU C l m ex nd tk E0 L0 σ Kk u vs)
    (hK : ∀ u σ' E a w, Kk u σ' E → Agree a σ' → St C (needs u (liveU tk E) L0) a w → wpListIn (FR C.r) 0 C.P l.toArray Q (l.drop m) a w)
    (listed : Array Bool) (u : Got) (Ex : List Nat) (a : Act) (w : World) (fuel : Nat) (hs : listed.size = l.length) (hc : Shut l.toArray listed) (hm : ∀ k, Ls listed k → k < m) (hall : ∀ j, j < m → Ls listed j) (hf : l.length ≤ m + fuel)
    (h : MidU C l m ex nd tk E0 L0 σ Kk listed u Ex a w) : wpAnyIn (FR C.r) 0 C.P .any l.toArray Q fuel listed a w := by
  have hml : m ≤ l.length := by simpa using ok.ok.le
  have hbig : l.length ≤ 1000 := by simpa using ok.big
  obtain ⟨vs, hg⟩ := hgood u h.valid
  have hvl : vs.length = m := by rw [hg.len, List.length_take]; omega
  refine tail_anyU ok fuel m listed a w hs hc (fun k => ⟨hm k, hall k⟩) (Nat.le_refl _) hml hf ?_
  refine hK u _ _ a w hg.fin ?_ ⟨h.size, ?_⟩
  · intro t
    by_cases hex : ∃ (j : Nat) (o' : Oper), j < m ∧ l[j]? = some o' ∧ o'.dst = some t
    · obtain ⟨j, o', hjm, hj, hd⟩ := hex
      have hv : vs[j]? = some (vs[j]'(by omega)) := List.getElem?_eq_getElem (by omega)
      rw [(h.vals u h.valid (fun _ _ => rfl) vs hg j o' _ hjm hj hv (hall j hjm)).1 t hd]
      refine (envAt_one _ _ _ t j o' _ (take_get hjm hj) hv hd ?_).symm
      intro j' o'' hj' hne hd'
      obtain ⟨h2, h3⟩ := get_take hj'
      exact ok.ok.uniq j' o'' h2 (by simpa using h3) j o' hjm (by simpa using hj) (fun e => hne e.symm) t hd hd'
    · rw [h.base t (fun j o' hj ho' _ hd => hex ⟨j, o', hj, ho', hd⟩)]
      refine (envAt_none _ _ _ t fun j o' hj hd => ?_).symm
      obtain ⟨h2, h3⟩ := get_take hj
      exact hex ⟨j, o', h2, h3, hd⟩
  · refine h.heap.perm (List.Perm.append_left _ (needs_permU (liveU_perm ?_)))
    refine (List.perm_ext_iff_of_nodup h.nodup (exAt_nodupT _ _ _ _ _ ok.e0 (fun c hc => .inr (by have := (ok.tok c hc).1; simp; omega)))).2 fun c => ?_
    have key : ∀ c, c < m → (c ∈ Ex ↔ c ∈ exAt l.toArray ex 0 (l.take m) vs σ E0) := fun c hc =>
      (h.vals u h.valid (fun _ _ => rfl) vs hg c l[c] (vs[c]'(by omega)) hc (List.getElem?_eq_getElem (by omega)) (List.getElem?_eq_getElem (by omega)) (hall c hc)).2
    constructor
    · intro hcm
      rcases h.sub c hcm with h1 | h1
      · exact (key c h1.1).1 hcm
      · exact (exAt_mem _ _ _ _ _ _).2 (.inl h1)
    · intro hcm
      rcases (exAt_mem _ _ _ _ _ _).1 hcm with h0 | ⟨i, o, v, h1, _, h3, _⟩
      · exact h.old c h0
      · exact (key c (by have := (get_take h1).1; omega)).2 hcm
where
  exAt_nodupT : ∀ (l' : List Oper) (vs : List Value) (k : Nat) (σ : Env) (E : List Nat), E.Nodup → (∀ c ∈ E, c < k ∨ k + l'.length ≤ c) → (exAt l.toArray ex k l' vs σ E).Nodup
    | [], _, _, _, _, h, _ => by simpa [exAt] using h
    | _ :: _, [], _, _, _, h, _ => by simpa [exAt] using h
    | o :: l', v :: vs, k, σ, E, h, hk => by
      rw [exAt]
      simp only [List.length_cons] at hk
      refine exAt_nodupT l' vs (k + 1) _ _ ?_ ?_
      · unfold made; split
        · exact List.nodup_cons.2 ⟨fun hc => by rcases hk k hc with h' | h' <;> omega, h⟩
        · exact h
      · intro c hc
        unfold made at hc; split at hc
        · rcases List.mem_cons.1 hc with rfl | hc
          · omega
          · rcases hk c hc with h' | h' <;> omega
        · rcases hk c hc with h' | h' <;> omega
theorem draw_anyU {Q : Exit → Act → World → Prop} {Kk : Got → Env → List Nat → Prop} (ok : OkU l.toArray m nd tk E0) (hgood : ∀ u, Valid ex u → ∃ vs, GoodU C l m ex nd tk E0 L0 σ Kk u vs)
    (hK : ∀ u σ' E a w, Kk u σ' E → Agree a σ' → St C (needs u (liveU tk E) L0) a w → wpListIn (FR C.r) 0 C.P l.toArray Q (l.drop m) a w) :
    ∀ (fuel : Nat) (listed : Array Bool) (u : Got) (Ex : List Nat) (a : Act) (w : World), listed.size = l.length → Shut l.toArray listed → (∀ k, Ls listed k → k < m) → listed.toList.countP (fun b => !b) ≤ fuel →
      MidU C l m ex nd tk E0 L0 σ Kk listed u Ex a w → wpAnyIn (FR C.r) 0 C.P .any l.toArray Q fuel listed a w := by
  have hml : m ≤ l.length := by simpa using ok.ok.le
  have hbig : l.length ≤ 1000 := by simpa using ok.big
  have hnE : ∀ i, i < m → i ∉ E0 := fun i hi hE => by have := (ok.tok i hE).1; omega
  have hcount : ∀ (listed : Array Bool), listed.size = l.length → (∀ k, Ls listed k → k < m) → l.length - m ≤ listed.toList.countP (fun b => !b) := fun listed hs hm => by
    have h1 : (listed.toList.drop m).countP (fun b => !b) ≤ listed.toList.countP (fun b => !b) := (List.drop_sublist m _).countP_le
    have h2 : (listed.toList.drop m).countP (fun b => !b) = (listed.toList.drop m).length := by
      rw [List.countP_eq_length]
      intro b hb
      obtain ⟨j, hj⟩ := List.getElem?_of_mem hb
      rw [List.getElem?_drop] at hj
      cases b with
      | false => rfl
      | true =>
        have : Ls listed (m + j) := by
          unfold Ls
          rw [Array.getD_eq_getD_getElem?, ← Array.getElem?_toList, hj]; rfl
        have := hm _ this
        omega
    rw [List.length_drop, Array.length_toList, hs] at h2
    omega
  intro fuel
  induction fuel with
  | zero =>
    intro listed u Ex a w hs hc hm hcnt h
    have hml' := hcount listed hs hm
    refine draw_endU ok hgood hK listed u Ex a w 0 hs hc hm (fun j hj => ?_) (by omega) h
    have h0 : listed.toList.countP (fun b => !b) = 0 := by omega
    rw [List.countP_eq_zero] at h0
    have := h0 (listed[j]'(by omega)) (by simp)
    unfold Ls
    rw [Array.getD_eq_getD_getElem?, Array.getElem?_eq_getElem (by omega)]
    simpa using this
  | succ fuel ih =>
    intro listed u Ex a w hs hc hm hcnt h
    have hml' := hcount listed hs hm
    by_cases hall : ∀ j, j < m → Ls listed j
    · exact draw_endU ok hgood hK listed u Ex a w (fuel + 1) hs hc hm hall (by omega) h
    refine ⟨fun hr => absurd (fun j hj => all_listed ok.ok (by simpa using hs) hr j (by simp; omega)) hall, fun i hi => ?_⟩
    obtain ⟨h1, o, ho', _⟩ := mem_ready.1 hi
    have ho : l[i]? = some o := by simpa using ho'
    have hil : i < l.length := (List.getElem?_eq_some_iff.1 ho).1
    have hni : ¬ Ls listed i := (not_ls (by omega)).2 h1
    have him : i < m := by
      rcases Nat.lt_or_ge i m with h' | h'
      · exact h'
      · exact absurd (fun j hj => ready_anc hc hi (ok.ok.tail i o h' ho' j (by omega))) hall
    have hc' := hc.set hi (by omega)
    have hm' : ∀ k, Ls (listed.setIfInBounds i true) k → k < m := fun k hk => by
      rcases (Ls.set_iff (by omega)).1 hk with rfl | hk
      · exact him
      · exact hm k hk
    have hcnt' : (listed.setIfInBounds i true).toList.countP (fun b => !b) ≤ fuel := by
      have hb : listed.toList[i]'(by simp; omega) = false := by
        have := h1
        rw [Array.getD_eq_getD_getElem?, Array.getElem?_eq_getElem (by omega)] at this
        simpa using this
      have hpos : 0 < listed.toList.countP (fun b => !b) := List.countP_pos_iff.2 ⟨false, by rw [← hb]; exact List.getElem_mem _, rfl⟩
      have e := List.countP_set (p := fun b : Bool => !b) (l := listed.toList) (i := i) (a := true) (by simp; omega)
      rw [hb] at e
      rw [Array.toList_setIfInBounds, e]
      show _ - 1 + 0 ≤ fuel
      omega
    have goOn := fun u1 Ex1 a1 w1 => ih (listed.setIfInBounds i true) u1 Ex1 a1 w1 (by simpa using hs) hc' hm' hcnt'
    have hread : ∀ u', Valid ex u' → (∀ c ∈ Ex, u' c = u c) → ∀ vs, GoodU C l m ex nd tk E0 L0 σ Kk u' vs → (∀ x ∈ o.op.operands, ev (fun t => a.tmps.getD t undef) x = ev (envAt ((l.take m).take i) (vs.take i) σ) x) ∧ wants l.toArray (fun t => a.tmps.getD t undef) o = wants l.toArray (envAt ((l.take m).take i) (vs.take i) σ) o := fun u' hu' hag vs hg => by
      refine ⟨fun x hx => ?_, wants_congr fun g b hgd tg htg => ?_⟩
      · cases x with
        | tmp t => exact h.read ok hc hi him ho hu' hag hg (fun j o' hj hjo hd => ok.ok.look i o him ho' j o' hj (by simpa using hjo) t hd hx)
        | _ => rfl
      · exact h.read ok hc hi him ho hu' hag hg (fun j o' hj hjo hd => ok.ok.gard i o him ho' g b hgd tg htg j o' hj (by simpa using hjo) hd)
    have hexec : ∀ u', Valid ex u' → (∀ c ∈ Ex, u' c = u c) → ∀ vs, GoodU C l m ex nd tk E0 L0 σ Kk u' vs → execOp (ev (fun t => a.tmps.getD t undef)) o = execOp (ev (envAt ((l.take m).take i) (vs.take i) σ)) o := fun u' hu' hag vs hg =>
      execOp_congr o (ok.ok.sel i o ho') (hread u' hu' hag vs hg).1
    have hat : ∀ vs : List Value, vs.length = (l.take m).length → ∃ v, vs[i]? = some v := fun vs hl => ⟨vs[i]'(by rw [hl, List.length_take]; omega), List.getElem?_eq_getElem _⟩
    -- no one who has run takes what i reads, but i itself
    have hfree : ∀ c ∈ nd i, ∀ k ∈ Ex, c ∉ tk k := fun c hcn k hk hkc => by
      rcases h.sub k hk with ⟨hkm, hkl⟩ | hk0
      · have h2 := ok.tak k hkm c hkc
        have hki : i ≠ k := fun e => hni (e ▸ hkl)
        have h3 := (h2.2.2 i him hki hcn).2
        exact hni (anc_in (D := Ls listed) hc h3 (hc k hkl))
      · rw [(ok.tok k hk0).2] at hkc; cases hkc
    have hneed : ∀ u' vs, Valid ex u' → (∀ c ∈ Ex, u' c = u c) → GoodU C l m ex nd tk E0 L0 σ Kk u' vs → (∀ c ∈ nd i, c ∈ liveU tk (exAt l.toArray ex 0 ((l.take m).take i) (vs.take i) σ E0)) →
        ∃ Rl : List Nat, (liveU tk Ex).Perm (nd i ++ Rl) ∧ Hp C.w0 C.B ((hid C a ++ Rl.flatMap fun c => (u c).2) ++ needs u' (nd i) L0) w := fun u' vs hu' hag hg hn => by
      have hsub : ∀ c ∈ nd i, c ∈ liveU tk Ex := fun c hcn => by
        refine mem_liveU.2 ⟨?_, hfree c hcn⟩
        rcases ok.has i him c hcn with hc1 | hc1
        · have hcn' : c ∈ (nd i).filter fun c => Nat.blt c 1000 := List.mem_filter.2 ⟨hcn, Nat.ble_eq_true_of_le hc1⟩
          have hcl := ready_anc hc hi (ok.ok.need i o him ho' c hcn').2
          have hci := (ok.ok.need i o him ho' c hcn').1
          have hcm : c < m := by omega
          obtain ⟨v, hv⟩ : ∃ v, vs[c]? = some v := ⟨vs[c]'(by rw [hg.len, List.length_take]; omega), List.getElem?_eq_getElem _⟩
          refine ((h.vals u' hu' hag vs hg c l[c] v hcm (List.getElem?_eq_getElem (by omega)) hv hcl).2).2 ?_
          rcases (exAt_mem _ _ _ _ _ _).1 (mem_liveU.1 (hn c hcn)).1 with h0 | ⟨j, o', v', h2, h3, h4, h5, h6⟩
          · have := (ok.tok c h0).1; omega
          · obtain ⟨hji, hjm, hjl⟩ := take_take_get h2
            refine (exAt_mem _ _ _ _ _ _).2 (.inr ⟨j, o', v', take_get hjm hjl, ?_, h4, ?_, h6⟩)
            · rw [List.getElem?_take, if_pos hji] at h3; exact h3
            · have e1 : ((l.take m).take i).take j = (l.take m).take j := by rw [List.take_take, Nat.min_eq_left (by omega)]
              have e2 : (vs.take i).take j = vs.take j := by rw [List.take_take, Nat.min_eq_left (by omega)]
              rw [e1, e2] at h5; exact h5
        · exact h.old c hc1
      have hnd : (liveU tk Ex).Nodup := h.nodup.filter _
      obtain ⟨R, hp⟩ := perm_needs hsub (ok.nodu i him) hnd
      have hfl : ∀ E : List Nat, (∀ c ∈ E, c ∈ Ex) → E.flatMap (fun c => (u c).2) = E.flatMap (fun c => (u' c).2) := fun E hE => by
        induction E with
        | nil => rfl
        | cons c E ihE =>
          rw [List.flatMap_cons, List.flatMap_cons, hag c (hE c (by simp)), ihE (fun d hd => hE d (by simp [hd]))]
      have hpp : (needs u (liveU tk Ex) L0).Perm ((R.flatMap fun c => (u c).2) ++ needs u' (nd i) L0) := by
        unfold needs
        rw [← hfl (nd i) (fun c hcn => (mem_liveU.1 (hsub c hcn)).1), ← List.append_assoc]
        refine List.Perm.append_right _ ((List.Perm.flatMap_right _ hp).trans ?_)
        rw [List.flatMap_append]
        exact List.perm_append_comm
      refine ⟨R, hp, h.heap.perm ?_⟩
      rw [List.append_assoc]
      exact List.Perm.append_left _ hpp
    obtain ⟨vs, hg⟩ := hgood u h.valid
    obtain ⟨v, hv⟩ := hat vs hg.len
    have hstep := hg.step i o v (take_get him ho) hv
    obtain ⟨hd, hstep⟩ := hstep
    unfold wpOpIn
    rw [ho']
    simp only
    rcases hstep with ⟨hw, hn, hcase⟩ | ⟨hw, rfl⟩
    · rw [if_pos (wanted_eq (Agree.refl a) (by rw [(hread u h.valid (fun _ _ => rfl) vs hg).2]; exact hw))]
      obtain ⟨R, hp, hhp⟩ := hneed u vs h.valid (fun _ _ => rfl) hg hn
      rcases hcase with ⟨V, hx, rfl, hsp⟩ | ⟨hx, hsd⟩
      · have hgo := hsp _ w hhp
        rw [← hexec u h.valid (fun _ _ => rfl) vs hg] at hgo
        refine hgo.wpIn (Agree.refl a) ?_
        rintro v' w' ⟨L', hh', T, rfl, hV⟩
        have hniE : i ∉ Ex := fun hiE => by
          rcases h.sub i hiE with h2 | h2
          · exact hni h2.2
          · exact hnE i him h2
        have hval : Valid ex (fun c => if c = i then (v', T) else u c) := fun k V' hk => by
          by_cases hki : k = i
          · subst hki; rw [hx] at hk; cases hk; simpa using hV
          · simp only [if_neg hki]; exact h.valid k V' hk
        have hsame : ∀ c ∈ Ex, (if c = i then (v', T) else u c) = u c := fun c hcE => if_neg (fun e : c = i => hniE (e ▸ hcE))
        refine goOn (fun c => if c = i then (v', T) else u c) (i :: Ex) _ _ ?_
        refine h.put ok (by omega) hni him ho hd hval (List.nodup_cons.2 ⟨hniE, h.nodup⟩) (.inr ⟨rfl, hsame⟩) ?_ ?_
        · intro u' hu' hag vs' hg' v2 hv2
          have hag' : ∀ c ∈ Ex, u' c = u c := fun c hcE => by rw [hag c (by simp [hcE]), hsame c hcE]
          obtain ⟨_, hs2⟩ := hg'.step i o v2 (take_get him ho) hv2
          have hw2 : wants l.toArray (envAt ((l.take m).take i) (vs'.take i) σ) o = true := by
            rw [← (hread u' hu' hag' vs' hg').2, (hread u h.valid (fun _ _ => rfl) vs hg).2]; exact hw
          refine ⟨?_, by simp [exAt_atU (hnE i him) (take_get him ho) hv2, hw2, hx]⟩
          rcases hs2 with ⟨_, _, ⟨V2, hx2, rfl, _⟩ | ⟨hx2, _⟩⟩ | ⟨hw3, _⟩
          · have := hag i (by simp)
            rw [this]; simp
          · rw [hx] at hx2; cases hx2
          · rw [hw2] at hw3; cases hw3
        · refine hh'.perm ?_
          rw [List.append_assoc]
          refine List.Perm.append_left _ ?_
          -- what lives behind it
          have hlive : (liveU tk (i :: Ex)).Perm (i :: ((nd i).filter (fun c => !decide (c ∈ tk i)) ++ R)) := by
            have e0 : liveU tk (i :: Ex) = i :: (liveU tk Ex).filter (fun c => !decide (c ∈ tk i)) := by
              unfold liveU
              have hii : (!((i :: Ex).any fun k => decide (i ∈ tk k))) = true := by
                simp only [Bool.not_eq_true', List.any_eq_false, List.mem_cons, decide_eq_true_eq]
                rintro k (rfl | hk) hkc
                · exact (ok.tak _ him _ hkc).2.1 rfl
                · rcases h.sub k hk with ⟨hkm, hkl⟩ | hk0
                  · have h2 := ok.tak k hkm i hkc
                    have h4 : i ∈ (nd k).filter fun c => Nat.blt c 1000 := List.mem_filter.2 ⟨h2.1, Nat.ble_eq_true_of_le (by omega)⟩
                    obtain ⟨ok', hok'⟩ : ∃ o', l[k]? = some o' := ⟨l[k]'(by omega), List.getElem?_eq_getElem (by omega)⟩
                    have h3 := (ok.ok.need k ok' hkm (by simpa using hok') i h4).2
                    exact hni (anc_in (D := Ls listed) hc h3 (hc k hkl))
                  · rw [(ok.tok k hk0).2] at hkc; cases hkc
              rw [List.filter_cons, if_pos hii]
              congr 1
              rw [List.filter_filter]
              apply List.filter_congr
              intro c _
              simp only [List.any_cons, Bool.not_or]
            rw [e0]
            refine List.Perm.cons _ ?_
            refine (hp.filter _).trans ?_
            rw [List.filter_append]
            refine List.Perm.append_left _ ?_
            have : R.filter (fun c => !decide (c ∈ tk i)) = R := by
              rw [List.filter_eq_self]
              intro c hcR
              simp only [Bool.not_eq_true', decide_eq_false_iff_not]
              intro hkc
              have h2 := (ok.tak i him c hkc).1
              have hnd : (nd i ++ R).Nodup := hp.nodup_iff.1 (h.nodup.filter _)
              exact (List.nodup_append.1 hnd).2.2 c h2 c hcR rfl
            rw [this]
          have hRE : ∀ c ∈ (nd i).filter (fun c => !decide (c ∈ tk i)) ++ R, c ∈ Ex := fun c hcc => by
            have : c ∈ nd i ++ R := by
              rcases List.mem_append.1 hcc with h2 | h2
              · exact List.mem_append_left _ (List.mem_filter.1 h2).1
              · exact List.mem_append_right _ h2
            exact (mem_liveU.1 (hp.mem_iff.2 this)).1
          have e1 : ∀ E : List Nat, (∀ c ∈ E, c ∈ Ex) → E.flatMap (fun c => (if c = i then (v', T) else u c).2) = E.flatMap (fun c => (u c).2) := fun E hE => by
            induction E with
            | nil => rfl
            | cons c E ihE => rw [List.flatMap_cons, List.flatMap_cons, hsame c (hE c (by simp)), ihE (fun d hd => hE d (by simp [hd]))]
          have e2 : needs (fun c => if c = i then (v', T) else u c) (i :: ((nd i).filter (fun c => !decide (c ∈ tk i)) ++ R)) L0 = T ++ (((nd i).filter (fun c => !decide (c ∈ tk i))).flatMap (fun c => (u c).2) ++ (R.flatMap (fun c => (u c).2) ++ L0)) := by
            unfold needs
            rw [List.flatMap_cons, e1 _ hRE, List.flatMap_append]
            simp
          refine List.Perm.trans ?_ (needs_permU hlive.symm)
          rw [e2]
          unfold needs
          refine List.Perm.trans List.perm_append_comm ?_
          rw [List.append_assoc, List.append_assoc]
          refine List.Perm.append_left _ (List.Perm.append_left _ List.perm_append_comm)
      · have hrun := hsd _ w hhp
        rw [← hexec u h.valid (fun _ _ => rfl) vs hg] at hrun
        have hgo : Goes C.P ((execOp (ev (fun t => a.tmps.getD t undef)) o).run C.P w) (fun v' w' => v' = v ∧ w' = w) := .inl ⟨v, w, hrun, rfl, rfl⟩
        refine hgo.wpIn (Agree.refl a) ?_
        rintro v' w' ⟨rfl, rfl⟩
        have hniE : i ∉ Ex := fun hiE => by
          rcases h.sub i hiE with h2 | h2
          · exact hni h2.2
          · exact hnE i him h2
        refine goOn u Ex _ _ (h.put ok (by omega) hni him ho hd h.valid h.nodup (.inl ⟨rfl, rfl⟩) ?_ h.heap)
        intro u' hu' hag vs' hg' v2 hv2
        obtain ⟨_, hs2⟩ := hg'.step i o v2 (take_get him ho) hv2
        have hw2 : wants l.toArray (envAt ((l.take m).take i) (vs'.take i) σ) o = true := by
          rw [← (hread u' hu' hag vs' hg').2, (hread u h.valid (fun _ _ => rfl) vs hg).2]; exact hw
        refine ⟨?_, by simp [exAt_atU (hnE i him) (take_get him ho) hv2, hx, hniE]⟩
        rcases hs2 with ⟨_, hn2, ⟨V2, hx2, _, _⟩ | ⟨_, hsd2⟩⟩ | ⟨hw3, _⟩
        · rw [hx] at hx2; cases hx2
        · obtain ⟨R2, _, hhp2⟩ := hneed u' vs' hu' hag hg' hn2
          have hrun2 := hsd2 _ w' hhp2
          rw [← hexec u' hu' hag vs' hg', hrun] at hrun2
          injection hrun2 with h5
          injection h5 with h5
          exact h5.symm
        · rw [hw2] at hw3; cases hw3
    · rw [if_neg (by rw [wanted_ne (Agree.refl a) (by rw [(hread u h.valid (fun _ _ => rfl) vs hg).2]; exact hw)]; simp)]
      have hniE : i ∉ Ex := fun hiE => by
        rcases h.sub i hiE with h2 | h2
        · exact hni h2.2
        · exact hnE i him h2
      refine ⟨fun _ _ => trivial, goOn u Ex _ _ (h.put ok (by omega) hni him ho hd h.valid h.nodup (.inl ⟨rfl, rfl⟩) ?_ h.heap)⟩
      intro u' hu' hag vs' hg' v2 hv2
      obtain ⟨_, hs2⟩ := hg'.step i o v2 (take_get him ho) hv2
      have hw2 : wants l.toArray (envAt ((l.take m).take i) (vs'.take i) σ) o = false := by
        rw [← (hread u' hu' hag vs' hg').2, (hread u h.valid (fun _ _ => rfl) vs hg).2]; exact hw
      refine ⟨?_, by simp [exAt_atU (hnE i him) (take_get him ho) hv2, hw2, hniE]⟩
      rcases hs2 with ⟨hw3, _⟩ | ⟨_, h5⟩
      · rw [hw2] at hw3; cases hw3
      · exact h5
end
/-- **A REGION WHOSE ORDER IS DRAWN**, what was there in tokens E0: token c holds T0 c. -/
theorem Cd.drawU {C : Ctx} {Q : Exit → Env → List Res → Prop} {id : Nat} {l : List Oper} {σ : Env} {L L0 : List Res} (hm : C.P.follows .mixedOrders = true) (m : Nat) (ex : Nat → Option (Value → List Res → Prop)) (nd : Nat → List Nat) (tk : Nat → List Nat) (E0 : List Nat) (T0 : Nat → List Res) (hok : drawOkU l.toArray m nd tk E0 = true)
    (hL : L.Perm (E0.flatMap T0 ++ L0)) (hex : ∀ c ∈ E0, ex c = some (fun v R => v = undef ∧ R = T0 c)) (hin : ∀ k V, ex k = some V → ∃ v R, V v R)
    (h : ∀ u : Got, Valid ex u → (∀ c ∈ E0, u c = (undef, T0 c)) → WkU C l.toArray ex nd tk u L0 0 (l.take m) σ E0 (fun σ' E => Ol C l.toArray (l.drop m) (fun σ L => Q .normal σ L) σ' (needs u (liveU tk E) L0))) :
    Cd C (.region id l.toArray true) Q σ L := by
  intro a w ha hs
  refine wpIn_region_any hm ?_
  have ok : OkU l.toArray m nd tk E0 := OkU.mk' hok
  have hu0e : ∀ u, Valid ex u → ∀ c ∈ E0, u c = (undef, T0 c) := fun u hu c hc => by
    obtain ⟨h1, h2⟩ := hu c _ (hex c hc)
    rw [← h1, ← h2]
  have hgood : ∀ u, Valid ex u → ∃ vs, GoodU C l m ex nd tk E0 L0 σ (fun u σ' E => Ol C l.toArray (l.drop m) (fun σ L => Q .normal σ L) σ' (needs u (liveU tk E) L0)) u vs := fun u hu => by
    obtain ⟨vs, h1, h2, h3⟩ := (h u hu (hu0e u hu)).vals
    exact ⟨vs, h1, fun i o v hi hv => by simpa using h2 i o v hi hv, h3⟩
  have hu0 : ∃ u : Got, Valid ex u := by
    refine ⟨fun k => match hx : ex k with
      | some V => (Classical.choose (hin k V hx), Classical.choose (Classical.choose_spec (hin k V hx)))
      | none => (undef, []), fun k V hk => ?_⟩
    have := Classical.choose_spec (Classical.choose_spec (hin k V hk))
    simp only
    split
    · rename_i V' hx
      rw [hk] at hx
      cases hx
      exact this
    · rename_i hx; rw [hk] at hx; cases hx
  obtain ⟨u, hu⟩ := hu0
  have hlive : liveU tk E0 = E0 := by
    unfold liveU
    rw [List.filter_eq_self]
    intro c _
    simp only [Bool.not_eq_true', List.any_eq_false, decide_eq_true_eq]
    intro k hk hkc
    rw [(ok.tok k hk).2] at hkc; cases hkc
  have hneeds : needs u E0 L0 = E0.flatMap T0 ++ L0 := by
    unfold needs
    congr 1
    have : ∀ E : List Nat, (∀ c ∈ E, c ∈ E0) → E.flatMap (fun c => (u c).2) = E.flatMap T0 := fun E hE => by
      induction E with
      | nil => rfl
      | cons c E ihE => rw [List.flatMap_cons, List.flatMap_cons, hu0e u hu c (hE c (by simp)), ihE (fun d hd => hE d (by simp [hd]))]
    exact this E0 (fun _ h => h)
  refine draw_anyU (nd := nd) (tk := tk) (E0 := E0) (ex := ex) (σ := σ) (L0 := L0) ok hgood (fun u σ' E a w hk ha hs => hk a w _ ha hs fun a' w' σ'' L' h1 h2 h3 => ⟨σ'', L', h1, h2, h3⟩) l.toArray.size (Array.replicate l.toArray.size false) u E0 a _ (by simp) ?_ ?_ ?_ ⟨hs.size, hu, ok.e0, fun c hc => .inr hc, fun c hc => hc, fun t _ => ha t, ?_, ?_⟩
  · intro k hk
    exact (ls_rep hk).elim
  · intro k hk
    exact (ls_rep hk).elim
  · simp only [Array.toList_replicate]
    exact Nat.le_trans List.countP_le_length (by simp)
  · intro u' _ _ vs _ j o v _ _ _ hl
    exact (ls_rep hl).elim
  · rw [hlive, hneeds]
    exact (hs.heap.step (Stp.drew w)).perm (List.Perm.append_left _ hL)
/-! ### The walk's steps -/
section
variable {C : Ctx} {all : Array Oper} {ex : Nat → Option (Value → List Res → Prop)} {nd : Nat → List Nat} {tk : Nat → List Nat} {u : Got} {L0 : List Res} {k : Nat} {rest : List Oper} {σ : Env} {E : List Nat} {K : Env → List Nat → Prop} {op : Op} {d : Option Nat} {ty : TypeId} {pos : String} {af : Array Edge} {gd : Option (Nat × Bool)} {v : Value}
theorem WkU.nil (h : K σ E) : WkU C all ex nd tk u L0 k [] σ E K := h
theorem WkU.goN {l : List Nat} (hw : wants all σ ⟨d, op, ty, pos, af, gd⟩ = true) (h : Sd C.P C.w0 C.B ⟨d, op, ty, pos, af, gd⟩ σ (needs u l L0) v) (hk : WkU C all ex nd tk u L0 (k + 1) rest (updO σ d v) E K)
    (hd : okDst C.N d = true) (hx : ex k = none) (hn : nd k = l) (hE : ∀ c ∈ l, c ∈ liveU tk E) : WkU C all ex nd tk u L0 k (⟨d, op, ty, pos, af, gd⟩ :: rest) σ E K := by
  unfold WkU
  simp only [hw, cond_true, hx, hn]
  exact ⟨hE, hd, v, h, hk⟩
theorem WkU.goX {l l2 : List Nat} {V : Value → List Res → Prop} (hw : wants all σ ⟨d, op, ty, pos, af, gd⟩ = true) (hu : Valid ex u) (hx : ex k = some V) (hn : nd k = l) (h2 : (l.filter fun c => !decide (c ∈ tk k)) = l2) (hE : ∀ c ∈ l, c ∈ liveU tk E)
    (h : Sp C.P C.w0 C.B ⟨d, op, ty, pos, af, gd⟩ σ (needs u l L0) (Adds V (needs u l2 L0))) (hk : ∀ v T, u k = (v, T) → V v T → WkU C all ex nd tk u L0 (k + 1) rest (updO σ d v) (k :: E) K)
    (hd : okDst C.N d = true) : WkU C all ex nd tk u L0 k (⟨d, op, ty, pos, af, gd⟩ :: rest) σ E K := by
  unfold WkU
  simp only [hw, cond_true, hx, hn, h2]
  exact ⟨hE, hd, h, hk _ _ rfl (hu k V hx)⟩
theorem WkU.p (h : Sd C.P C.w0 C.B ⟨d, op, ty, pos, af, none⟩ σ L0 v) (hk : WkU C all ex nd tk u L0 (k + 1) rest (updO σ d v) E K) (hd : okDst C.N d = true := by rfl) (hx : ex k = none := by rfl) (hn : nd k = [] := by rfl) :
    WkU C all ex nd tk u L0 k (⟨d, op, ty, pos, af, none⟩ :: rest) σ E K := WkU.goN (l := []) rfl h hk hd hx hn (fun c h => by cases h)
theorem WkU.xn {l l2 : List Nat} {V : Value → List Res → Prop} (hu : Valid ex u) (hn : nd k = l) (h2 : (l.filter fun c => !decide (c ∈ tk k)) = l2) (hE : (l.all fun c => (liveU tk E).contains c) = true) (h : Sp C.P C.w0 C.B ⟨d, op, ty, pos, af, none⟩ σ (needs u l L0) (Adds V (needs u l2 L0))) (hk : ∀ v T, u k = (v, T) → V v T → WkU C all ex nd tk u L0 (k + 1) rest (updO σ d v) (k :: E) K)
    (hd : okDst C.N d = true := by rfl) (hx : ex k = some V := by rfl) : WkU C all ex nd tk u L0 k (⟨d, op, ty, pos, af, none⟩ :: rest) σ E K :=
  WkU.goX rfl hu hx hn h2 (fun c hc => by simpa using List.all_eq_true.1 hE c hc) h hk hd
end
end Go.Proofs.YtjenaenakopicaaGreat

/- Reference 08: a call is done, walked . -/
namespace Go.Proofs.YtjenaenakopicaaGreat
set_option linter.unusedVariables false
set_option linter.unusedSimpArgs false
open Go Go.RowKit
set_option maxRecDepth 100000
section
def wB (F0 F1 : Value) (y : RLay) (s : RSt) : Res := blk y.gR (.cells (wC F0 F1 (.slice y.mA s.mem.length y.mC) (.slice y.aA s.ans.length y.aC) (.slice y.cA s.calls.length y.cC) s) 84)
def wL (F0 F1 : Value) (y : RLay) (s : RSt) : List Res := [wB F0 F1 y s, memRow y s, y.a0, callRow y s] ++ y.recs.map callRes
structure WOk (w0 : World) (B : Nat) (y : RLay) (s : RSt) : Prop where
  calls : s.calls = y.recs.map fun r => (r.callee, r.args)
  ans : RdS w0 B [y.a0] 1 y.aA s.ans.length (ints s.ans)
  acap : s.ans.length ≤ y.aC
set_option maxHeartbeats 4000000 in
theorem ref08_ins_call_cm {w0 : World} {B : Nat} {F0 F1 : Value} {y : RLay} {s : RSt} {i : RIns} (hok : WOk w0 B y s) (hi : isIns i = true) (hop : i.op = 13) (hia : Reads w0 B 1 i.aA i.args.length (ints i.args)) (hcl : s.calls.length < 2 ^ 40) (hsp : s.i < 2 ^ 60) (hv : s.v = 0) :
    Cm Tryz.prog 64 #[.pointer (some ⟨y.gR, 0, none⟩), i.val] w0 B (wL F0 F1 y s) (fun u L => u = .tuple #[] ∧ ∃ y', y'.gR = y.gR ∧ WOk w0 B y' (nxS (insF s i).1 (insF s i).2) ∧ L = wL F0 F1 y' (nxS (insF s i).1 (insF s i).2)) := by
  obtain ⟨_, _, _, hav, hal⟩ := isIns_parts hi
  have hV : insV s i = callF s i := by
    unfold insV
    rw [if_neg (by omega), if_neg (by omega), if_pos hop]
  refine Cm.mk Tryz.func64 rfl rfl fun M => ?_
  refine Cd.seq ?_
  refine Cd.region ?_
  refine Ol.x bxg ?_
  rintro _ _ ⟨g3, rfl, rfl⟩
  refine Ol.nil ?_
  refine Cd.mid (fun σ' L' => Has σ' [(0, .pointer (some ⟨y.gR, 0, none⟩))] ∧ ∃ y', y'.gR = y.gR ∧ (insV s i).2.2 = true ∧ WOk w0 B y' (insS (insV s i).1 i (insV s i).2.1) ∧ Keep L' (wL F0 F1 y' (insS (insV s i).1 i (insV s i).2.1))) ?_ ?_
  · skip
    refine Cd.seq ?_
    refine Cd.region ?_
    refine Ol.p (fdl fd_api_Ins_0) ?_
    refine Ol.p (ld (v := .int .i64 i.op) one_api_Op (Rd.blk (i := 0) (k := 0) rfl rfl)) ?_
    refine Ol.nil ?_
    refine Cd.block ?_
    refine Cd.seq ?_
    refine Cd.region ?_
    refine Ol.p eqi ?_
    refine Ol.p asb ?_
    refine Ol.nil ?_
    refine Cd.cond rfl (fun h => ?_) (fun h => ?_)
    · have h : decide (i.op = 1) = true := h
      have := of_decide_eq_true h
      omega
    refine Cd.seq ?_
    refine Cd.region ?_
    refine Ol.p eqi ?_
    refine Ol.p asb ?_
    refine Ol.nil ?_
    refine Cd.cond rfl (fun h => ?_) (fun h => ?_)
    · have h : decide (i.op = 14) = true := h
      have := of_decide_eq_true h
      omega
    refine Cd.seq ?_
    refine Cd.region ?_
    refine Ol.p eqi ?_
    refine Ol.p asb ?_
    refine Ol.nil ?_
    refine Cd.cond rfl (fun h => ?_) (fun h => ?_)
    · have h : decide (i.op = 11) = true := h
      have := of_decide_eq_true h
      omega
    refine Cd.seq ?_
    refine Cd.region ?_
    refine Ol.p eqi ?_
    refine Ol.p asb ?_
    refine Ol.nil ?_
    refine Cd.cond rfl (fun h => ?_) (fun h => ?_)
    · have h : decide (i.op = 12) = true := h
      have := of_decide_eq_true h
      omega
    refine Cd.seq ?_
    refine Cd.region ?_
    refine Ol.p eqi ?_
    refine Ol.p asb ?_
    refine Ol.nil ?_
    refine Cd.cond rfl (fun h => ?_) (fun h => absurd hop (of_decide_eq_false h))
    obtain ⟨W, hW⟩ : ∃ W, W = [memRow y s, y.a0, callRow y s] ++ y.recs.map callRes := ⟨_, rfl⟩
    show Cd _ _ _ _ (blk g3 (.cells i.cells.toArray 25) :: wB F0 F1 y s :: ([memRow y s, y.a0, callRow y s] ++ y.recs.map callRes))
    rw [← hW]
    refine Cd.seq ?_
    refine Cd.region ?_
    refine Ol.p (fdl fd_api_Ins_5) ?_
    refine Ol.p (ld (v := .int .i64 i.callee) one_int (Rd.blk (i := 0) (k := 5) rfl rfl)) ?_
    refine Ol.p (bds (cs := #[.int .i64 i.callee, .slice none 0 0]) bs_api_Call zr_api_Call (hf := by kernel_rfl)) ?_
    refine Ol.x (alc zr_api_Call) ?_
    rintro _ _ ⟨g6, rfl, rfl⟩
    refine Ol.s (stw (vs := #[.int .i64 i.callee, .slice none 0 0]) sz_api_Call rfl (by intro u hu; simp at hu; rcases hu with rfl | rfl <;> rfl) (i := 0) rfl rfl) ?_
    refine Ol.nil ?_
    refine Cd.seq ?_
    refine Cd.seq ?_
    refine Cd.region ?_
    refine Ol.p asi ?_
    refine Ol.nil ?_
    refine Cd.block ?_
    refine Cd.nr 3 1 ?_
    refine Cd.loop (fun m σ L => ∃ (k : Nat) (A' : Option Addr) (c' : Nat), m = i.args.length - k ∧ k ≤ i.args.length ∧ Has σ [(0, .pointer (some ⟨y.gR, 0, none⟩)), (3, .pointer (some ⟨g3, 0, none⟩)), (6, .pointer (some ⟨g6, 0, none⟩)), (7, .int .i64 k)] ∧ row (.slice A' k c') 3 1 k (ints ((i.args.take k).map s.get)) :: blk g6 (.cells #[.int .i64 i.callee, .slice A' k c'] 106) :: blk g3 (.cells i.cells.toArray 25) :: wB F0 F1 y s :: W = L) (n := i.args.length) ⟨0, none, 0, rfl, Nat.zero_le _, ⟨rfl, rfl, rfl, rfl, trivial⟩, rfl⟩ ?_
    rintro _ σ L ⟨k, A', c', rfl, hk, hs, rfl⟩
    refine Cd.has hs ?_
    clear hs
    refine Cd.seq ?_
    refine Cd.seq ?_
    refine Cd.region ?_
    refine Ol.p mvi ?_
    refine Ol.p (fdl fd_api_Ins_6) ?_
    refine Ol.p (ld (v := .slice i.aA i.args.length i.aC) one_L_int (Rd.blk (i := 2) (k := 6) rfl rfl)) ?_
    refine Ol.p (lens sl_L_int) ?_
    refine Ol.p lsi ?_
    refine Ol.nil ?_
    refine Cd.cond rfl (fun h => ?_) (fun h => ?_)
    · have hkl : k < i.args.length := by
        have h : decide ((k : Int) < (i.args.length : Int)) = true := h
        have := of_decide_eq_true h
        omega
      obtain ⟨ak, hak⟩ : ∃ ak, i.args[k]? = some ak := ⟨_, List.getElem?_eq_getElem hkl⟩
      have har := hav ak (List.mem_of_getElem? hak)
      obtain ⟨kk, hkk⟩ : ∃ kk : Nat, ak = (kk : Int) := ⟨ak.toNat, by omega⟩
      have hvk := wC_val (F0 := F0) (F1 := F1) (m := .slice y.mA s.mem.length y.mC) (a := .slice y.aA s.ans.length y.aC) (c := .slice y.cA s.calls.length y.cC) (s := s) (k := kk) (by omega)
      rw [← hkk] at hvk
      have hik : (ints i.args)[k]? = some (.int .i64 ak) := by unfold ints; rw [List.getElem?_map, hak]; rfl
      refine Cd.skip ?_
      refine Cd.seq ?_
      refine Cd.block ?_
      refine Cd.drawU (L0 := (blk g6 (.cells #[.int .i64 i.callee, .slice A' k c'] 106) :: blk g3 (.cells i.cells.toArray 25) :: wB F0 F1 y s :: W)) mixed 14 (fun opNo => match opNo with | 12 => some (NewSv 3 1 1 1 [.int .i64 (s.get ak)]) | 13 => some (fun v T => ∃ A c g, v = .slice A (k + 1) c ∧ T = [row (.slice A (k + 1) c) 3 1 (k + 1) (ints ((i.args.take k).map s.get) ++ [.int .i64 (s.get ak)]), row (.slice (some ⟨g, 0, none⟩) 1 1) 3 1 1 [.int .i64 (s.get ak)]]) | 1000 => some ((fun v R => v = undef ∧ R = [row (.slice A' k c') 3 1 k (ints ((i.args.take k).map s.get))])) | _ => none) (fun opNo => match opNo with | 13 => [1000, 12] | _ => []) (fun opNo => match opNo with | 13 => [1000, 12] | _ => []) [1000] (fun tokNo => match tokNo with | 1000 => [row (.slice A' k c') 3 1 k (ints ((i.args.take k).map s.get))] | _ => []) (by kernel_rfl) (.refl _) (by intro c hc; simp only [List.mem_cons, List.not_mem_nil, or_false] at hc; rcases hc with rfl <;> rfl) (by intro q V h; split at h <;> cases h; exact ⟨_, _, 0, rfl, rfl⟩; exact ⟨_, _, none, 0, 0, rfl, rfl⟩; exact ⟨_, _, rfl, rfl⟩) (fun u hu hu0 => ?_)
      refine WkU.p (fdl fd_api_Call_1) ?_
      refine WkU.p (ld (v := .slice A' k c') one_L_int (Rd.blk (i := 0) (k := 1) rfl rfl)) ?_
      refine WkU.p mvp ?_
      refine WkU.p (fdl fd_api_Ins_6) ?_
      refine WkU.p (ld (v := .slice i.aA i.args.length i.aC) one_L_int (Rd.blk (i := 1) (k := 6) rfl rfl)) ?_
      refine WkU.p mvi ?_
      refine WkU.p (ixn1 (ix := k) sl_L_int (Som.slc hia (by omega))) ?_
      refine WkU.p (ld (v := .int .i64 ak) one_int (Rd.slc hia hik)) ?_
      refine WkU.p nlc ?_
      refine WkU.p (fdl fd_ref08_Run_1) ?_
      refine WkU.p (ixl (off := 2) (ix := kk) ar_A201_int (hy := congrArg (Value.int .i64) hkk)) ?_
      refine WkU.p (ld (v := .int .i64 (s.get ak)) one_int (Rd.blk (i := 2) rfl hvk)) ?_
      refine WkU.xn (V := NewSv 3 1 1 1 [.int .i64 (s.get ak)]) (l := []) (l2 := []) hu rfl rfl rfl (by rw [needs_none]; exact (NewS.adds (bsv [.int .i64 (s.get ak)] sl_L_int zr_int (by simp [Value.cells])))) ?_
      rintro _ _ hu12 ⟨g128, rfl, rfl⟩
      refine WkU.xn (V := fun v T => ∃ A c g, v = .slice A (k + 1) c ∧ T = [row (.slice A (k + 1) c) 3 1 (k + 1) (ints ((i.args.take k).map s.get) ++ [.int .i64 (s.get ak)]), row (.slice (some ⟨g, 0, none⟩) 1 1) 3 1 1 [.int .i64 (s.get ak)]]) (l := [1000, 12]) (l2 := []) hu rfl rfl rfl (by rw [needs_cons (hu0 1000 (by simp)), needs_cons hu12, needs_none]; exact (fun M w hh => Goes.mono (apn (i := 0) (n := k) (m := 1) sl_L_int zr_int rfl (by decide) rfl (Src.row (i := 1) rfl rfl) (by intro u hu; simp at hu; subst hu; rfl) (by unfold maxLen; omega) (by omega) rfl rfl M w hh) fun v w' ⟨L', h1, A, c, h2, h3⟩ => ⟨L', h1, _, by rw [h3]; rfl, A, c, g128, h2, rfl⟩)) ?_
      rintro _ _ hu13 ⟨A2, c2, g12, rfl, rfl⟩
      refine WkU.nil ?_
      change Ol _ _ _ _ _ (needs u [13] _)
      rw [needs_cons hu13, needs_none]
      refine Ol.p (fdl fd_api_Call_1) ?_
      refine Ol.s (sto (i := 2) (k := 0 + 1) (v := .slice A2 (k + 1) c2) (.inr sz_L_int) rfl rfl rfl (by simp) rfl) ?_
      refine Ol.keep (.sub (.cons_cons _ (.cons _ (List.Sublist.refl _)))) ?_
      refine Ol.nil ?_
      refine Cd.region ?_
      refine Ol.p mvi ?_
      refine Ol.p addi ?_
      refine Ol.p asi ?_
      refine Ol.nil ?_
      refine ⟨i.args.length - (k + 1), by omega, k + 1, A2, c2, rfl, by omega, ⟨rfl, rfl, rfl, rfl, trivial⟩, ?_⟩
      rw [List.take_add_one, hak]
      simp only [Option.toList_some, List.map_append, List.map_cons, List.map_nil]
      rw [show ints (List.map s.get (List.take k i.args) ++ [s.get ak]) = ints (List.map s.get (List.take k i.args)) ++ [.int .i64 (s.get ak)] by simp [ints]]
      rfl
    have hke : k = i.args.length := by
      have h : decide ((k : Int) < (i.args.length : Int)) = false := h
      have := of_decide_eq_false h
      omega
    subst hke
    refine Cd.exit (id := 1) ?_
    obtain ⟨as_, has⟩ : ∃ as_, as_ = i.args.map s.get := ⟨_, rfl⟩
    have hasl : i.args.length = as_.length := by rw [has]; simp
    rw [List.take_length, ← has, hasl]
    obtain ⟨rc, hrc⟩ : ∃ rc : CRec, rc = ⟨i.callee, A', c', as_⟩ := ⟨_, rfl⟩
    have e1 : row (.slice A' as_.length c') 3 1 as_.length (ints as_) = callRes rc := by rw [hrc]; rfl
    have e2 : #[Value.int .i64 i.callee, .slice A' as_.length c'] = rc.cells.toArray := by rw [hrc]; rfl
    rw [e1, e2, hW]
    have hwc : (wC F0 F1 (.slice y.mA s.mem.length y.mC) (.slice y.aA s.ans.length y.aC) (.slice y.cA s.calls.length y.cC) s)[406]? = some (.slice y.cA s.calls.length y.cC) := wC_at (by omega)
    refine Cd.seq ?_
    refine Cd.drawU (L0 := (callRes rc :: blk g6 (.cells rc.cells.toArray 106) :: blk g3 (.cells i.cells.toArray 25) :: wB F0 F1 y s :: memRow y s :: y.a0 :: y.recs.map callRes)) mixed 8 (fun opNo => match opNo with | 6 => some (NewSv 106 2 1 1 rc.cells) | 7 => some (fun v T => ∃ A c g, v = .slice A (s.calls.length + 1) c ∧ T = [row (.slice A (s.calls.length + 1) c) 106 2 (s.calls.length + 1) (y.recs.flatMap CRec.cells ++ rc.cells), row (.slice (some ⟨g, 0, none⟩) 1 1) 106 2 1 rc.cells]) | 1000 => some ((fun v R => v = undef ∧ R = [callRow y s])) | _ => none) (fun opNo => match opNo with | 7 => [1000, 6] | _ => []) (fun opNo => match opNo with | 7 => [1000, 6] | _ => []) [1000] (fun tokNo => match tokNo with | 1000 => [callRow y s] | _ => []) (by kernel_rfl) (perm_count fun _ x => by simp only [List.flatMap_cons, List.flatMap_nil, List.count_append, List.count_cons, List.count_nil, List.cons_append, List.nil_append]; omega) (by intro c hc; simp only [List.mem_cons, List.not_mem_nil, or_false] at hc; rcases hc with rfl <;> rfl) (by intro q V h; split at h <;> cases h; exact ⟨_, _, 0, rfl, rfl⟩; exact ⟨_, _, none, 0, 0, rfl, rfl⟩; exact ⟨_, _, rfl, rfl⟩) (fun u hu hu0 => ?_)
    refine WkU.p mvp ?_
    refine WkU.p mvp ?_
    refine WkU.p nlc ?_
    refine WkU.p (fdl fd_ref08_Run_5) ?_
    refine WkU.p (ld (v := .slice y.cA s.calls.length y.cC) one_L_api_Call (Rd.blk (i := 3) (k := 406) rfl hwc)) ?_
    refine WkU.p (ldw (cs := rc.cells.toArray) ag_api_Call (i := 1) rfl rfl) ?_
    refine WkU.xn (V := NewSv 106 2 1 1 rc.cells) (l := []) (l2 := []) hu rfl rfl rfl (by rw [needs_none]; exact (NewS.adds (bs1 (cs := rc.cells) sl_L_api_Call zr_api_Call rfl rfl))) ?_
    rintro _ _ hu6 ⟨g137, rfl, rfl⟩
    refine WkU.xn (V := fun v T => ∃ A c g, v = .slice A (s.calls.length + 1) c ∧ T = [row (.slice A (s.calls.length + 1) c) 106 2 (s.calls.length + 1) (y.recs.flatMap CRec.cells ++ rc.cells), row (.slice (some ⟨g, 0, none⟩) 1 1) 106 2 1 rc.cells]) (l := [1000, 6]) (l2 := []) hu rfl rfl rfl (by rw [needs_cons (hu0 1000 (by simp)), needs_cons hu6, needs_none]; exact (fun M w hh => Goes.mono (apn (i := 0) (m := 1) sl_L_api_Call zr_api_Call rfl (by decide) rfl (Src.row (i := 1) rfl rfl) (CRec.one _) (by unfold maxLen; omega) (by omega) rfl rfl M w hh) fun v w' ⟨L', h1, A, c, h2, h3⟩ => ⟨L', h1, _, by rw [h3]; rfl, A, c, g137, h2, rfl⟩)) ?_
    rintro _ _ hu7 ⟨Ac, cc, g6b, rfl, rfl⟩
    refine WkU.nil ?_
    change Ol _ _ _ _ _ (needs u [7] _)
    rw [needs_cons hu7, needs_none]
    refine Ol.p nlc ?_
    refine Ol.p (fdl fd_ref08_Run_5) ?_
    refine Ol.s (sto (i := 5) (k := 0 + 406) (v := .slice Ac (s.calls.length + 1) cc) (.inr sz_L_api_Call) rfl rfl rfl (by rw [wC_size]; omega) rfl) ?_
    refine Ol.nil ?_
    obtain ⟨y1, hy1⟩ : ∃ y1 : RLay, y1 = { y with cA := Ac, cC := cc, recs := y.recs ++ [rc] } := ⟨_, rfl⟩
    have hcl3 : (callS s i).calls.length = s.calls.length + 1 := by simp [callS]
    have f1 : wB F0 F1 y1 (callS s i) = blk y.gR (.cells ((wC F0 F1 (.slice y.mA s.mem.length y.mC) (.slice y.aA s.ans.length y.aC) (.slice y.cA s.calls.length y.cC) s).setIfInBounds (0 + 406) (.slice Ac (s.calls.length + 1) cc)) 84) := by
      rw [hy1]
      unfold wB
      rw [hcl3, show 0 + 406 = 406 from rfl, wC_cl]
      rfl
    have f2 : memRow y1 (callS s i) = memRow y s := by rw [hy1]; rfl
    have f3 : callRow y1 (callS s i) = row (.slice Ac (s.calls.length + 1) cc) 106 2 (s.calls.length + 1) (y.recs.flatMap CRec.cells ++ rc.cells) := by
      rw [hy1]
      unfold callRow
      rw [hcl3]
      simp
    have f4 : y1.recs.map callRes = y.recs.map callRes ++ [callRes rc] := by rw [hy1]; simp
    have f5 : y1.a0 = y.a0 := by rw [hy1]
    refine Cd.keep (L' := blk g3 (.cells i.cells.toArray 25) :: wL F0 F1 y1 (callS s i)) (keep_count [row (.slice (some ⟨g6b, 0, none⟩) 1 1) 106 2 1 rc.cells, blk g6 (.cells rc.cells.toArray 106)] fun _ x => by
      unfold wL
      rw [f1, f2, f3, f4, f5]
      unfold wB
      simp only [List.set_cons_succ, List.set_cons_zero, List.count_append, List.count_cons, List.count_nil, List.cons_append, List.nil_append]
      omega) ?_
    have hok1 : WOk w0 B y1 (callS s i) := by
      rw [hy1]
      exact ⟨by show s.calls ++ _ = _; rw [hok.calls, hrc, has]; simp, hok.ans, hok.acap⟩
    have hg1 : y1.gR = y.gR := by rw [hy1]
    have ha1 : y1.aA = y.aA ∧ y1.aC = y.aC ∧ y1.a0 = y.a0 := by rw [hy1]; exact ⟨rfl, rfl, rfl⟩
    clear f1 f2 f3 f4 e1 e2 hu7
    have hwa : ∀ (m c : Value) (s' : RSt), (wC F0 F1 m (.slice y1.aA s.ans.length y1.aC) c s')[405]? = some (.slice y1.aA s.ans.length y1.aC) := fun m c s' => wC_at (by omega)
    rw [← hg1]
    refine Cd.seq ?_
    refine Cd.seq ?_
    refine Cd.region ?_
    refine Ol.p mvp ?_
    refine Ol.p nlc ?_
    refine Ol.p (fdl fd_ref08_Run_4) ?_
    refine Ol.p (ld (v := .slice y1.aA s.ans.length y1.aC) one_L_int (Rd.blk (i := 1) (k := 405) rfl (hwa _ _ _))) ?_
    refine Ol.p (lens sl_L_int) ?_
    refine Ol.p eqi ?_
    refine Ol.nil ?_
    refine Cd.cond rfl (fun h => ?_) (fun h => ?_)
    · have he : s.ans = [] := by
        have h0 : ((s.ans.length : Nat) : Int) = 0 := by simpa using h
        exact List.length_eq_zero_iff.1 (by omega)
      have hcf : callF s i = (callS s i, 0, false) := by unfold callF; rw [he]
      have hI : insF s i = (callS s i, .done 2 0) := by
        unfold insF
        rw [hV, hcf, if_neg (fun h => by cases h)]
      obtain ⟨W1, hW1⟩ : ∃ W1, W1 = [memRow y1 (callS s i), y1.a0, callRow y1 (callS s i)] ++ y1.recs.map callRes := ⟨_, rfl⟩
      show Cd _ _ _ _ (blk g3 (.cells i.cells.toArray 25) :: wB F0 F1 y1 (callS s i) :: ([memRow y1 (callS s i), y1.a0, callRow y1 (callS s i)] ++ y1.recs.map callRes))
      rw [← hW1]
      refine Cd.seq ?_
      refine Cd.region ?_
      refine Ol.p mvp ?_
      refine Ol.x (sp_callm (vs := [.pointer (some ⟨y1.gR, 0, none⟩)]) (Lin := [wB F0 F1 y1 (callS s i)]) (L2 := blk g3 (.cells i.cells.toArray 25) :: W1) en_P_ref08_Run_trap (List.Perm.swap _ _ _) ref08_trap_cm) ?_
      rintro _ _ ⟨_, rfl, rfl, rfl⟩
      refine Ol.nil ?_
      rw [hI]
      refine Cd.ret ⟨_, ret0 rfl, _, .sub (.cons_cons _ (.cons _ (List.Sublist.refl _))), rfl, y1, rfl, ⟨hok1.calls, hok1.ans, hok1.acap⟩, ?_⟩
      rw [hW1]
      have hz : ({ callS s i with e := 2 } : RSt) = nxS (callS s i) (.done 2 0) := by
        show ({ callS s i with e := 2 } : RSt) = { callS s i with e := 2, v := 0 }
        have : (callS s i).v = 0 := hv
        rw [← this]
      rw [hz]
      rfl
    obtain ⟨n, r, he⟩ : ∃ n r, s.ans = n :: r := by
      cases hr : s.ans with
      | nil => rw [hr] at h; simp at h
      | cons n r => exact ⟨n, r, rfl⟩
    have hel : s.ans.length = r.length + 1 := by rw [he]; rfl
    have hcf : callF s i = ({ callS s i with ans := r }, n, true) := by unfold callF; rw [he]
    have hans : RdS w0 B [y1.a0] 1 y1.aA s.ans.length (ints s.ans) := hok1.ans
    obtain ⟨sd, hsd⟩ : ∃ sd, sd = insS (callS s i) i n := ⟨_, rfl⟩
    refine Cd.skip ?_
    refine Cd.mid (fun σ' L' => Has σ' [(0, .pointer (some ⟨y1.gR, 0, none⟩))] ∧ Keep L' (wL F0 F1 y1 sd)) ?_ ?_
    · skip
      obtain ⟨W1, hW1⟩ : ∃ W1, W1 = ([memRow y1 (callS s i), y1.a0, callRow y1 (callS s i)] ++ y1.recs.map callRes) := ⟨_, rfl⟩
      show Cd _ _ _ _ (blk g3 (.cells i.cells.toArray 25) :: wB F0 F1 y1 (callS s i) :: ([memRow y1 (callS s i), y1.a0, callRow y1 (callS s i)] ++ y1.recs.map callRes))
      rw [← hW1]
      refine Cd.seq ?_
      refine Cd.region ?_
      refine Ol.p (fdl fd_api_Ins_1) ?_
      refine Ol.p (ld (v := .int .i64 i.dst) one_int (Rd.blk (i := 0) (k := 1) rfl rfl)) ?_
      refine Ol.p gti ?_
      refine Ol.nil ?_
      refine Cd.cond rfl (fun h => ?_) (fun h => ?_)
      · have h : decide ((0 : Int) < i.dst) = true := h
        have hlt := of_decide_eq_true h
        obtain ⟨hdd, _⟩ := isIns_parts hi
        obtain ⟨kd, hkd⟩ : ∃ kd : Nat, i.dst = (kd : Int) := ⟨i.dst.toNat, by omega⟩
        have hWk : Keep (blk g3 (.cells i.cells.toArray 25) :: wB F0 F1 y1 (callS s i) :: W1) [y1.a0] := by
          rw [hW1]
          exact .sub (.cons _ (.cons _ (.cons _ (.cons_cons _ (List.nil_sublist _)))))
        have hset : Cm Tryz.prog 58 #[.pointer (some ⟨y1.gR, 0, none⟩), .int .i64 i.dst, .int .i64 n] w0 B [wB F0 F1 y1 (callS s i)] (fun u L => u = .tuple #[] ∧ L = [wB F0 F1 y1 sd]) := by
          rw [hsd, show insS (callS s i) i n = { callS s i with vars := updI (callS s i).vars i.dst n } from if_pos hlt, hkd]
          exact ref08_set_cm (by omega) (by omega)
        refine Cd.draw mixed 9 (fun _ => none) (fun _ => []) (by kernel_rfl) (fun _ _ h => by cases h) (fun u hu => ?_)
        refine Wk.p mvp ?_
        refine Wk.p (fdl fd_api_Ins_1) ?_
        refine Wk.p (ld (v := .int .i64 i.dst) one_int (Rd.blk (i := 0) (k := 1) rfl rfl)) ?_
        refine Wk.p mvp ?_
        refine Wk.p nlc ?_
        refine Wk.p (fdl fd_ref08_Run_4) ?_
        refine Wk.p (ld (v := .slice y1.aA s.ans.length y1.aC) one_L_int (Rd.blk (i := 1) (k := 405) rfl (hwa _ _ _))) ?_
        refine Wk.p (ixn1 (ix := 0) sl_L_int (Som.rds (hans.keep hWk) (by omega)) (h := by omega)) ?_
        refine Wk.p (ld (v := .int .i64 n) one_int (Rd.rds (hans.keep hWk) (k := 0) (by rw [he]; rfl))) ?_
        refine Wk.nil ?_
        refine Ol.x (sp_callm (vs := [.pointer (some ⟨y1.gR, 0, none⟩), .int .i64 i.dst, .int .i64 n]) (Lin := [wB F0 F1 y1 (callS s i)]) (L2 := blk g3 (.cells i.cells.toArray 25) :: W1) en_P_ref08_Run_set (List.Perm.swap _ _ _) hset) ?_
        rintro _ _ ⟨_, rfl, rfl, rfl⟩
        refine Ol.nil ?_
        refine ⟨⟨rfl, trivial⟩, ?_⟩
        have hWs : W1 = [memRow y1 sd, y1.a0, callRow y1 sd] ++ y1.recs.map callRes := by
          rw [hW1, hsd, show insS (callS s i) i n = { callS s i with vars := updI (callS s i).vars i.dst n } from if_pos hlt]
          rfl
        rw [hWs]
        exact .sub (.cons_cons _ (.cons _ (List.Sublist.refl _)))
      · have h : decide ((0 : Int) < i.dst) = false := h
        have hle := of_decide_eq_false h
        refine Cd.skip ?_
        refine ⟨⟨rfl, trivial⟩, ?_⟩
        rw [hsd, hW1, show insS (callS s i) i n = callS s i from if_neg hle]
        exact .sub (.cons _ (List.Sublist.refl _))
    rintro σ' L' ⟨hs', hkp⟩
    refine Cd.keep hkp ?_
    refine Cd.has hs' ?_
    clear hs'
    have hsda : sd.ans = s.ans := by
      rw [hsd]
      unfold insS
      split <;> rfl
    have hac := hok1.acap
    have hac2 : s.ans.length ≤ y1.aC := hac
    have hwd : (wC F0 F1 (.slice y1.mA sd.mem.length y1.mC) (.slice y1.aA sd.ans.length y1.aC) (.slice y1.cA sd.calls.length y1.cC) sd)[405]? = some (.slice y1.aA s.ans.length y1.aC) := by
      rw [hsda]
      exact wC_at (by omega)
    refine Cd.region ?_
    refine Ol.p mvp ?_
    refine Ol.p mvp ?_
    refine Ol.p nlc ?_
    refine Ol.p (fdl fd_ref08_Run_4) ?_
    refine Ol.p (ld (v := .slice y1.aA s.ans.length y1.aC) one_L_int (Rd.blk (i := 0) (k := 405) rfl hwd)) ?_
    refine Ol.p (sll (l := 1) (n := s.ans.length) (c := y1.aC) (A := y1.aA) sl_L_int (by omega)) ?_
    refine Ol.p nlc ?_
    refine Ol.p (fdl fd_ref08_Run_4) ?_
    refine Ol.s (sto (v := .slice (if y1.aC = 1 then y1.aA else y1.aA.map (·.add (1 * 1))) (s.ans.length - 1) (y1.aC - 1)) (i := 0) (k := 405) (.inr sz_L_int) rfl rfl rfl (by rw [wC_size]; omega) rfl) ?_
    refine Ol.nil ?_
    obtain ⟨y2, hy2⟩ : ∃ y2 : RLay, y2 = { y1 with aA := (if y1.aC = 1 then y1.aA else y1.aA.map (·.add (1 * 1))), aC := y1.aC - 1 } := ⟨_, rfl⟩
    obtain ⟨s3, hs3⟩ : ∃ s3 : RSt, s3 = { sd with ans := r } := ⟨_, rfl⟩
    have hIS : insS (insV s i).1 i (insV s i).2.1 = s3 := by
      rw [hV, hcf, hs3, hsd]
      unfold insS
      by_cases hd : 0 < i.dst
      · simp only [if_pos hd]
      · simp only [if_neg hd]
    have hsdc : sd.calls = (callS s i).calls := by
      rw [hsd]
      unfold insS
      split <;> rfl
    have hwS : (wC F0 F1 (.slice y1.mA sd.mem.length y1.mC) (.slice y1.aA sd.ans.length y1.aC) (.slice y1.cA sd.calls.length y1.cC) sd).setIfInBounds 405 (.slice (if y1.aC = 1 then y1.aA else y1.aA.map (·.add (1 * 1))) (s.ans.length - 1) (y1.aC - 1)) = wC F0 F1 (.slice y2.mA s3.mem.length y2.mC) (.slice y2.aA s3.ans.length y2.aC) (.slice y2.cA s3.calls.length y2.cC) s3 := by
      rw [wC_al, show s.ans.length - 1 = r.length by omega, hy2, hs3]
      rfl
    have hrd : RdS w0 B [y1.a0] 1 (if y1.aC = 1 then y1.aA else y1.aA.map (·.add (1 * 1))) r.length (ints r) := by
      have := drop1 (n := r.length) (c := y1.aC) (hel ▸ hans) (by omega)
      rw [he] at this
      exact this
    rw [hIS]
    refine ⟨⟨rfl, trivial⟩, y2, by rw [hy2], by rw [hV, hcf], ⟨by rw [hs3, hy2]; exact hsdc.trans hok1.calls, by rw [hs3, hy2]; exact hrd, by rw [hs3, hy2]; show r.length ≤ y1.aC - 1; omega⟩, ?_⟩
    have f6 : wL F0 F1 y2 s3 = blk y1.gR (.cells ((wC F0 F1 (.slice y1.mA sd.mem.length y1.mC) (.slice y1.aA sd.ans.length y1.aC) (.slice y1.cA sd.calls.length y1.cC) sd).setIfInBounds 405 (.slice (if y1.aC = 1 then y1.aA else y1.aA.map (·.add (1 * 1))) (s.ans.length - 1) (y1.aC - 1))) 84) :: ([memRow y1 sd, y1.a0, callRow y1 sd] ++ y1.recs.map callRes) := by
      rw [hwS, hy2, hs3]
      rfl
    rw [f6]
    exact .all
  rintro σ' L' ⟨hs', y', hg, hV2, hok', hkp⟩
  refine Cd.keep hkp ?_
  rw [← hg] at hs'
  refine Cd.has hs' ?_
  clear hs' hkp
  obtain ⟨s4, hs4⟩ : ∃ s4, s4 = insS (insV s i).1 i (insV s i).2.1 := ⟨_, rfl⟩
  have hIF : insF s i = (s4, .spot (insV s i).1.b ((insV s i).1.i + 1)) := by
    unfold insF
    rw [if_pos hV2, hs4]
  have hsp4 : s4.b = (insV s i).1.b ∧ s4.i = (insV s i).1.i := by
    rw [hs4]
    unfold insS
    split <;> exact ⟨rfl, rfl⟩
  have hsi := (insV_spot s i).2
  have hs4i : s4.i = s.i := hsp4.2.trans hsi
  rw [← hs4] at hok' ⊢
  obtain ⟨W1, hW1⟩ : ∃ W1, W1 = [memRow y' s4, y'.a0, callRow y' s4] ++ y'.recs.map callRes := ⟨_, rfl⟩
  show Cd _ _ _ _ (wB F0 F1 y' s4 :: ([memRow y' s4, y'.a0, callRow y' s4] ++ y'.recs.map callRes))
  rw [← hW1]
  refine Cd.region ?_
  refine Ol.p mvp ?_
  refine Ol.p nlc ?_
  refine Ol.p (fdl fd_ref08_Run_7) ?_
  refine Ol.p (ld (v := .int .i64 (s4.i : Int)) one_int (Rd.blk (i := 0) (k := 408) rfl wC_i_at)) ?_
  refine Ol.p addi ?_
  refine Ol.p nlc ?_
  refine Ol.p (fdl fd_ref08_Run_7) ?_
  refine Ol.s (sto (i := 0) (k := 408) (v := .int .i64 ((s4.i : Int) + 1)) (.inr sz_int) rfl rfl rfl (by rw [wC_size]; omega) rfl) ?_
  refine Ol.nil ?_
  refine ⟨_, ret0 rfl, _, .all, rfl, y', hg, ?_, ?_⟩
  · rw [hIF]
    exact ⟨hok'.calls, hok'.ans, hok'.acap⟩
  rw [hIF]
  have hn : nxS s4 (.spot (insV s i).1.b ((insV s i).1.i + 1)) = { s4 with i := s4.i + 1 } := by
    rw [← hsp4.1, ← hsp4.2]
    show ({ s4 with b := ((s4.b : Nat) : Int).toNat, i := (((s4.i : Nat) : Int) + 1).toNat } : RSt) = _
    rw [show ((s4.b : Nat) : Int).toNat = s4.b from Int.toNat_natCast _, show (((s4.i : Nat) : Int) + 1).toNat = s4.i + 1 by omega]
  show _ = wL F0 F1 y' (nxS s4 (.spot (insV s i).1.b ((insV s i).1.i + 1)))
  rw [hn, hW1]
  show _ = blk y'.gR (.cells (wC F0 F1 (.slice y'.mA s4.mem.length y'.mC) (.slice y'.aA s4.ans.length y'.aC) (.slice y'.cA s4.calls.length y'.cC) { s4 with i := s4.i + 1 }) 84) :: ([memRow y' s4, y'.a0, callRow y' s4] ++ y'.recs.map callRes)
  rw [← wC_i]
  rfl
end
end Go.Proofs.YtjenaenakopicaaGreat

/- The package flow: edges of blocks, the critical ones, walked. -/
namespace Go.Proofs.YtjenaenakopicaaGreat
set_option linter.unusedVariables false
open Go Go.RowKit
set_option maxRecDepth 100000

/-- How often a number stands among some. -/
def cnt (l : List Int) (n : Int) : Nat := l.count n
/-- Is an edge critical: one of more out of its block, one of more into its block? -/
def critE (ts : List Tm) (e : Ed) : Bool := decide (1 < cnt ((edges ts).map Ed.to) e.to) && decide (1 < cnt ((edges ts).map Ed.src) e.src)
/-- A map that counts. -/
def Cnts (es : List MapEntry) (l : List Int) : Prop := AllI es ∧ ∀ n, (mget es n).getD (.int .i64 0) = .int .i64 (cnt l n : Int)
end Go.Proofs.YtjenaenakopicaaGreat

/- The package flow: what is reached, walked. -/
namespace Go.Proofs.YtjenaenakopicaaGreat
set_option linter.unusedVariables false
open Go Go.RowKit
set_option maxRecDepth 100000

end Go.Proofs.YtjenaenakopicaaGreat

/- The package flow: the order of blocks, walked. -/
namespace Go.Proofs.YtjenaenakopicaaGreat
set_option linter.unusedVariables false
open Go Go.RowKit
set_option maxRecDepth 100000

end Go.Proofs.YtjenaenakopicaaGreat

/- Structs of numbers, compared. -/
namespace Go.Proofs.YtjenaenakopicaaGreat
set_option linter.unusedVariables false
open Go Go.RowKit
section
variable {P : Program} {w0 : World} {B : Nat} {σ : Env} {L : List Res} {d : Option Nat} {ty T : TypeId} {pos : String} {af : Array Edge} {gd : Option (Nat × Bool)} {x y z : Operand} {v : Value}
/-- A struct of n numbers. -/
def stI (P : Program) (T n : Nat) : Bool := match P.underlying T with
  | some (.struct fs) => fs.toList.all (fun f => (f.name != "_") && ((match P.underlying f.type with | some (.int _) => true | _ => false) && decide ((P.info? f.type).map (·.size) = some 1))) && decide (fs.toList.map (·.offset) = List.range n) && !P.stoodInHeld T && !P.eqGuardType P.depth T
  | _ => false
end
end Go.Proofs.YtjenaenakopicaaGreat

/- The law 10: its small functions, walked. -/
namespace Go.Proofs.YtjenaenakopicaaGreat
set_option linter.unusedVariables false
open Go Go.RowKit
set_option maxRecDepth 100000


section
theorem ints_eq_of {a b : List Int} (hl : a.length = b.length) (h : ∀ i x y, i < a.length → a[i]? = some x → b[i]? = some y → x = y) : a = b := by
  apply List.ext_getElem hl
  intro i h1 h2
  exact h i _ _ h1 (List.getElem?_eq_getElem h1) (List.getElem?_eq_getElem h2)
theorem kit_SameInts_ct {w : World} {A B : Option Addr} {c d : Nat} {a b : List Int} (ha : Reads w w.heap.size 1 A a.length (ints a)) (hb : Reads w w.heap.size 1 B b.length (ints b)) (hal : a.length < 2 ^ 62) (hbl : b.length < 2 ^ 62) :
    Ct Tryz.prog 37 #[.slice A a.length c, .slice B b.length d] w (Is (.bool (decide (a = b)))) := by
  refine Ct.mk Tryz.func37 rfl rfl ?_
  refine Cd.seq ?_
  refine Cd.region ?_
  refine Ol.p asb ?_
  refine Ol.nil ?_
  refine Cd.seq ?_
  refine Cd.seq ?_
  refine Cd.region ?_
  refine Ol.p mvs ?_
  refine Ol.p (lens sl_L_int) ?_
  refine Ol.p mvs ?_
  refine Ol.p (lens sl_L_int) ?_
  refine Ol.p nei ?_
  refine Ol.nil ?_
  refine Cd.cond rfl (fun h => ?_) (fun h => ?_)
  · refine Cd.seq ?_
    refine Cd.region ?_
    refine Ol.p asb ?_
    refine Ol.nil ?_
    refine Cd.ret ⟨_, ret1 rfl rfl, [], .nil, ?_, rfl⟩
    have hne : a ≠ b := fun e => by subst e; simp at h
    rw [decide_eq_false hne]; rfl
  have hll : a.length = b.length := by
    have : (a.length : Int) = b.length := by simpa using h
    omega
  refine Cd.skip ?_
  refine Cd.seq ?_
  refine Cd.seq ?_
  refine Cd.region ?_
  refine Ol.p asi ?_
  refine Ol.nil ?_
  refine Cd.block ?_
  refine Cd.loop (fun m σ L => ∃ k, m = a.length - k ∧ k ≤ a.length ∧ Has σ [(0, .slice A a.length c), (1, .slice B b.length d), (5, .int .i64 k)] ∧ L = [] ∧ ∀ i x y, i < k → a[i]? = some x → b[i]? = some y → x = y) (n := a.length) ⟨0, rfl, Nat.zero_le _, ⟨rfl, rfl, rfl, trivial⟩, rfl, fun i x y h => by omega⟩ ?_
  rintro _ σ L ⟨k, rfl, hk, hs, rfl, hyes⟩
  refine Cd.has hs ?_
  refine Cd.seq ?_
  refine Cd.seq ?_
  refine Cd.region ?_
  refine Ol.p mvi ?_
  refine Ol.p mvs ?_
  refine Ol.p (lens sl_L_int) ?_
  refine Ol.p lsi ?_
  refine Ol.nil ?_
  refine Cd.cond rfl (fun h => ?_) (fun h => ?_)
  · have hlt : k < a.length := by simpa using h
    have hlt2 : k < b.length := by omega
    refine Cd.skip ?_
    refine Cd.seq ?_
    refine Cd.block ?_
    refine Cd.seq ?_
    refine Cd.draw mixed 9 (fun _ => none) (fun _ => []) (by kernel_rfl) (fun _ _ h => by cases h) (fun u hu => ?_)
    refine Wk.p mvs ?_
    refine Wk.p mvi ?_
    refine Wk.p (ixn1 sl_L_int (Som.slc ha (by omega))) ?_
    refine Wk.p (ld one_int (Rd.slc ha (ints_get hlt))) ?_
    refine Wk.p mvs ?_
    refine Wk.p mvi ?_
    refine Wk.p (ixn1 sl_L_int (Som.slc hb (by omega))) ?_
    refine Wk.p (ld one_int (Rd.slc hb (ints_get hlt2))) ?_
    refine Wk.p nei ?_
    refine Wk.nil ?_
    refine Ol.nil ?_
    refine Cd.cond rfl (fun h2 => ?_) (fun h2 => ?_)
    · refine Cd.seq ?_
      refine Cd.region ?_
      refine Ol.p asb ?_
      refine Ol.nil ?_
      refine Cd.ret ⟨_, ret1 rfl rfl, [], .nil, ?_, rfl⟩
      have hne : a ≠ b := fun e => by subst e; simp at h2
      rw [decide_eq_false hne]; rfl
    · refine Cd.skip ?_
      refine Cd.region ?_
      refine Ol.p mvi ?_
      refine Ol.p addi ?_
      refine Ol.p asi ?_
      refine Ol.nil ?_
      refine ⟨a.length - (k + 1), by omega, k + 1, rfl, by omega, ⟨rfl, rfl, rfl, trivial⟩, rfl, ?_⟩
      intro i x y hi hx hy
      rcases Nat.lt_or_ge i k with h3 | h3
      · exact hyes i x y h3 hx hy
      · have : i = k := by omega
        subst this
        rw [List.getElem?_eq_getElem hlt] at hx
        rw [List.getElem?_eq_getElem hlt2] at hy
        cases hx; cases hy
        simpa using h2
  · have hge : k = a.length := by
      have : ¬ (k : Int) < a.length := by simpa using h
      omega
    subst hge
    refine Cd.exit (id := 0) ?_
    refine Cd.seq ?_
    refine Cd.region ?_
    refine Ol.p asb ?_
    refine Ol.nil ?_
    refine Cd.ret ⟨_, ret1 rfl rfl, [], .nil, ?_, rfl⟩
    rw [decide_eq_true (ints_eq_of hll hyes)]; rfl
end


end Go.Proofs.YtjenaenakopicaaGreat

/- The package ir: a function's variables, its size, walked. -/
namespace Go.Proofs.YtjenaenakopicaaGreat
set_option linter.unusedVariables false
open Go Go.RowKit
set_option maxRecDepth 100000

/-- What is noted of an instruction, of a block, of a function. -/
def noteI (i : RIns) : List Int := readsL i ++ [defI i]
def noteB (b : RBlk) : List Int := b.ins.flatMap noteI ++ needsL b.term
def noteF (f : RFun) : List Int := f.params ++ f.blocks.flatMap noteB
def noS : VS := fun _ => false
def varsTo (S : VS) (k : Nat) : List Nat := (List.range' 1 k).filter S
def okF (f : RFun) : Bool := !longF f && wholeF f
def varsF (f : RFun) : List Nat := if okF f then varsTo (putsV noS (noteF f) true) 200 else []
def sizeF (f : RFun) : Nat := if okF f then (f.blocks.map fun b => b.ins.length + 1).sum else 0
theorem whole_params {f : RFun} (h : wholeF f = true) : ∀ p ∈ f.params, 1 ≤ p ∧ p ≤ 200 := fun p hp => by
  rw [whole_split, Bool.and_eq_true, Bool.and_eq_true] at h
  have := List.all_eq_true.1 h.1.1 p hp
  unfold varB at this
  simpa using this
section
end
section
end
section
def szTo (f : RFun) (k : Nat) : Nat := ((f.blocks.take k).map fun b => b.ins.length + 1).sum
end
end Go.Proofs.YtjenaenakopicaaGreat

