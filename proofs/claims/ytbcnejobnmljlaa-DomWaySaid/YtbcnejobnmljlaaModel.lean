/- Functions of the program (api.Func), as they lie in memory; plain functions on them. -/
import Derived.Test.YtbcnejobnmljlaaMem
import Derived.Test.YtbcnejobnmljlaaSet
namespace Go.Proofs.Ytbcnejobnmljlaa
set_option linter.unusedVariables false
open Go Go.RowKit

structure Tm where
  kind : Int
  a : Int
  t0 : Int
  t1 : Int
deriving DecidableEq
structure RIns where
  op : Int
  dst : Int
  a : Int
  b : Int
  imm : Int
  callee : Int
  aA : Option Addr
  aC : Nat
  args : List Int
  many : Int
structure RBlk where
  iA : Option Addr
  iC : Nat
  ins : List RIns
  term : Tm
structure RFun where
  pA : Option Addr
  pC : Nat
  params : List Int
  bA : Option Addr
  bC : Nat
  blocks : List RBlk
def Tm.cells (t : Tm) : List Value := [.int .i64 t.kind, .int .i64 t.a, .int .i64 t.t0, .int .i64 t.t1]
def RIns.cells (i : RIns) : List Value := [.int .i64 i.op, .int .i64 i.dst, .int .i64 i.a, .int .i64 i.b, .int .i64 i.imm, .int .i64 i.callee, .slice i.aA i.args.length i.aC, .int .i64 i.many]
def RBlk.cells (b : RBlk) : List Value := .slice b.iA b.ins.length b.iC :: b.term.cells
def RFun.cells (f : RFun) : List Value := [.slice f.pA f.params.length f.pC, .slice f.bA f.blocks.length f.bC]
def RFun.val (f : RFun) : Value := .agg f.cells.toArray
def Tm.val (t : Tm) : Value := .agg t.cells.toArray
def RIns.val (i : RIns) : Value := .agg i.cells.toArray
def RBlk.val (b : RBlk) : Value := .agg b.cells.toArray
def RFun.terms (f : RFun) : List Tm := f.blocks.map RBlk.term
theorem RBlk.len (b : RBlk) : b.cells.length = 5 := rfl
theorem RIns.len (i : RIns) : i.cells.length = 8 := rfl
theorem Tm.len (t : Tm) : t.cells.length = 4 := rfl
theorem flat_get {α β : Type} {f : α → List β} {s : Nat} (hs : ∀ x, (f x).length = s) : ∀ (l : List α) (k j : Nat) (x : α), l[k]? = some x → j < s → (l.flatMap f)[k * s + j]? = (f x)[j]?
  | [], k, j, x, h, _ => by simp at h
  | y :: l, 0, j, x, h, hj => by
    simp at h
    subst h
    rw [List.flatMap_cons, Nat.zero_mul, Nat.zero_add, List.getElem?_append_left (by rw [hs]; exact hj)]
  | y :: l, k + 1, j, x, h, hj => by
    have ih := flat_get hs l k j x (by simpa using h) hj
    rw [List.flatMap_cons, List.getElem?_append_right (by rw [hs, Nat.add_mul]; omega), hs]
    rw [← ih]
    congr 1
    rw [Nat.add_mul]; omega
theorem flat_len {α β : Type} {f : α → List β} {s : Nat} (hs : ∀ x, (f x).length = s) : ∀ l : List α, (l.flatMap f).length = l.length * s
  | [] => by simp
  | y :: l => by rw [List.flatMap_cons, List.length_append, hs, flat_len hs l, List.length_cons, Nat.add_mul]; omega
/-- All of a function lies below B. -/
structure FunAt (w : World) (B : Nat) (f : RFun) : Prop where
  params : Reads w B 1 f.pA f.params.length (ints f.params)
  blocks : Reads w B 5 f.bA f.blocks.length (f.blocks.flatMap RBlk.cells)
  ins : ∀ b ∈ f.blocks, Reads w B 8 b.iA b.ins.length (b.ins.flatMap RIns.cells)
  args : ∀ b ∈ f.blocks, ∀ i ∈ b.ins, Reads w B 1 i.aA i.args.length (ints i.args)
theorem FunAt.now {w0 w : World} {B : Nat} {f : RFun} {L : List Res} (h : FunAt w0 B f) (hh : Hp w0 B L w) : FunAt w w.heap.size f :=
  ⟨h.params.now hh, h.blocks.now hh, fun b hb => (h.ins b hb).now hh, fun b hb i hi => (h.args b hb i hi).now hh⟩
theorem FunAt.cell {w : World} {B : Nat} {f : RFun} (h : FunAt w B f) {k j : Nat} {b : RBlk} (hk : f.blocks[k]? = some b) (hj : j < 5) : (f.blocks.flatMap RBlk.cells)[k * 5 + j]? = b.cells[j]? := flat_get RBlk.len _ _ _ _ hk hj
/-- Its numbers are numbers, its lists are not endless. -/
structure Fit (f : RFun) : Prop where
  params : ∀ n ∈ f.params, -9223372036854775808 ≤ n ∧ n ≤ 9223372036854775807
  plen : f.params.length < 2 ^ 50
  blen : f.blocks.length < 2 ^ 50
  pcap : f.params.length ≤ f.pC
  bcap : f.blocks.length ≤ f.bC
  ilen : ∀ b ∈ f.blocks, b.ins.length < 2 ^ 50
  icap : ∀ b ∈ f.blocks, b.ins.length ≤ b.iC
  term : ∀ b ∈ f.blocks, ∀ n ∈ [b.term.kind, b.term.a, b.term.t0, b.term.t1], -9223372036854775808 ≤ n ∧ n ≤ 9223372036854775807
  insr : ∀ b ∈ f.blocks, ∀ i ∈ b.ins, ∀ n ∈ [i.op, i.dst, i.a, i.b, i.imm, i.callee, i.many], -9223372036854775808 ≤ n ∧ n ≤ 9223372036854775807
  alen : ∀ b ∈ f.blocks, ∀ i ∈ b.ins, i.args.length < 2 ^ 50
  acap : ∀ b ∈ f.blocks, ∀ i ∈ b.ins, i.args.length ≤ i.aC
  argr : ∀ b ∈ f.blocks, ∀ i ∈ b.ins, ∀ n ∈ i.args, -9223372036854775808 ≤ n ∧ n ≤ 9223372036854775807

/-! ### Ends -/
def varB (n : Int) : Bool := decide (1 ≤ n) && decide (n ≤ 200)
def fitsB (has : Bool) (n : Int) : Bool := bif has then varB n else decide (n = 0)
def noneB (l : List Int) : Bool := l.all fun n => decide (n = 0)
def isTerm (t : Tm) : Bool :=
  bif decide (t.kind = 1) then noneB [t.a, t.t1] else bif decide (t.kind = 2) then varB t.a else bif decide (t.kind = 3) then fitsB (!decide (t.a = 0)) t.a && noneB [t.t0, t.t1] else decide (t.kind = 4) && noneB [t.a, t.t0, t.t1]
def toL (t : Tm) : List Int := bif isTerm t then (bif decide (t.kind = 1) then [t.t0] else bif decide (t.kind = 2) then [t.t0, t.t1] else []) else []
theorem toL_len (t : Tm) : (toL t).length ≤ 2 := by
  unfold toL
  cases isTerm t <;> simp
  cases decide (t.kind = 1) <;> simp
  cases decide (t.kind = 2) <;> simp
theorem toL_mem {t : Tm} {n : Int} (h : n ∈ toL t) : n = t.t0 ∨ n = t.t1 := by
  unfold toL at h
  cases h1 : isTerm t <;> simp [h1] at h
  cases h2 : decide (t.kind = 1) <;> simp [h2] at h
  · cases h3 : decide (t.kind = 2) <;> simp [h3] at h
    exact h
  · exact .inl h

/-! ### Edges -/
structure Ed where
  src : Int
  arm : Int
  to : Int
deriving DecidableEq
def Ed.cells (e : Ed) : List Value := [.int .i64 e.src, .int .i64 e.arm, .int .i64 e.to]
def Ed.val (e : Ed) : Value := .agg e.cells.toArray
def edgesB (b : Nat) (l : List Int) : List Ed := l.zipIdx.map fun x => ⟨(b : Int), (x.2 : Int), x.1⟩
def edgesTo (ts : List Tm) (k : Nat) : List Ed := (ts.take k).zipIdx.flatMap fun x => edgesB x.2 (toL x.1)
def edges (ts : List Tm) : List Ed := edgesTo ts ts.length
theorem edgesTo_zero (ts : List Tm) : edgesTo ts 0 = [] := by simp [edgesTo]
theorem take_snoc_ {α : Type} {l : List α} {k : Nat} {x : α} (h : l[k]? = some x) : l.take (k + 1) = l.take k ++ [x] := by
  obtain ⟨h1, h2⟩ := List.getElem?_eq_some_iff.1 h
  rw [List.take_succ_eq_append_getElem h1, h2]
theorem edgesTo_succ {ts : List Tm} {k : Nat} {t : Tm} (h : ts[k]? = some t) : edgesTo ts (k + 1) = edgesTo ts k ++ edgesB k (toL t) := by
  have hk := (List.getElem?_eq_some_iff.1 h).1
  unfold edgesTo
  rw [take_snoc_ h, List.zipIdx_append, List.flatMap_append]
  congr 1
  have : (ts.take k).length = k := by simp; omega
  simp [this]
theorem edgesTo_pre (ts : List Tm) : ∀ {k m : Nat}, k ≤ m → m ≤ ts.length → ∃ r, edgesTo ts m = edgesTo ts k ++ r := by
  intro k m h hm
  induction m with
  | zero => exact ⟨[], by rw [show k = 0 by omega]; simp⟩
  | succ m ih =>
    by_cases he : k = m + 1
    · exact ⟨[], by rw [he]; simp⟩
    · obtain ⟨r, hr⟩ := ih (by omega) (by omega)
      exact ⟨r ++ edgesB m (toL ts[m]), by rw [edgesTo_succ (List.getElem?_eq_getElem (by omega)), hr]; simp⟩
theorem edgesB_len (b : Nat) (l : List Int) : (edgesB b l).length = l.length := by simp [edgesB]
/-- The edge behind those of the blocks below k, and of k's first arms. -/
theorem edges_get {ts : List Tm} {k j : Nat} {t : Tm} {n : Int} (h : ts[k]? = some t) (hj : (toL t)[j]? = some n) : (edges ts)[(edgesTo ts k).length + j]? = some ⟨(k : Int), (j : Int), n⟩ := by
  have hk := (List.getElem?_eq_some_iff.1 h).1
  have hjl := (List.getElem?_eq_some_iff.1 hj).1
  obtain ⟨r, hr⟩ := edgesTo_pre ts (k := k + 1) (m := ts.length) (by omega) (Nat.le_refl _)
  unfold edges
  rw [hr, edgesTo_succ h, List.append_assoc, List.getElem?_append_right (by omega), Nat.add_sub_cancel_left, List.getElem?_append_left (by rw [edgesB_len]; exact hjl)]
  unfold edgesB
  rw [List.getElem?_map, List.getElem?_zipIdx, hj]
  simp
theorem edgesTo_len_le (ts : List Tm) (k : Nat) : (edgesTo ts k).length ≤ 2 * k := by
  induction k with
  | zero => simp [edgesTo]
  | succ k ih =>
    by_cases h : k < ts.length
    · rw [edgesTo_succ (List.getElem?_eq_getElem h), List.length_append, edgesB_len]
      have := toL_len ts[k]
      omega
    · have : edgesTo ts (k + 1) = edgesTo ts k := by unfold edgesTo; rw [List.take_of_length_le (by omega), List.take_of_length_le (by omega)]
      rw [this]; omega
theorem mem_edges {ts : List Tm} {e : Ed} : e ∈ edges ts ↔ ∃ (k j : Nat) (t : Tm), ts[k]? = some t ∧ (toL t)[j]? = some e.to ∧ e.src = (k : Int) ∧ e.arm = (j : Int) := by
  unfold edges edgesTo edgesB
  simp only [List.take_length, List.mem_flatMap, Prod.exists, List.mem_map, List.mem_zipIdx_iff_getElem?]
  constructor
  · rintro ⟨t, k, hk, n, j, hj, rfl⟩
    exact ⟨k, j, t, hk, hj, rfl, rfl⟩
  · rintro ⟨k, j, t, hk, hj, h1, h2⟩
    refine ⟨t, k, hk, e.to, j, hj, ?_⟩
    cases e
    simp at h1 h2
    simp [h1, h2]
/-- Do all edges go to blocks, and are there blocks, not too many? -/
def closed (ts : List Tm) : Bool := (edges ts).all (fun e => decide (0 ≤ e.to) && decide (e.to < (ts.length : Int))) && decide (0 < ts.length) && decide (ts.length ≤ 200)
def someE (ts : List Tm) (p : Ed → Bool) : List Ed := bif closed ts then (edges ts).filter p else []
def edV (l : List Ed) : List Value := l.flatMap Ed.cells
theorem Ed.len (e : Ed) : e.cells.length = 3 := rfl
end Go.Proofs.Ytbcnejobnmljlaa
