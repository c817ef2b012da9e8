/- Part 4 of the proof of IrEndsC: the texts Own, SameF, Lent, FlatL, FlatI, Flat0, Apart, IrVars, one behind the other. -/
import Derived.Test.YtcojedoejpcolaaGreatIrEndsCM3
/- A function in memory of its own: what is held of it; copies, walked. -/
namespace Go.Proofs.YtcojedoejpcolaaGreat
set_option linter.unusedVariables false
open Go Go.RowKit
set_option maxRecDepth 100000

def insRes (i : RIns) : Res := row (.slice i.aA i.args.length i.aC) 3 1 i.args.length (ints i.args)
def insRow (b : RBlk) : Res := row (.slice b.iA b.ins.length b.iC) 25 8 b.ins.length (b.ins.flatMap RIns.cells)
def blkRes (b : RBlk) : List Res := insRow b :: b.ins.map insRes
def prmRow (f : RFun) : Res := row (.slice f.pA f.params.length f.pC) 3 1 f.params.length (ints f.params)
def blkRow (f : RFun) : Res := row (.slice f.bA f.blocks.length f.bC) 34 5 f.blocks.length (f.blocks.flatMap RBlk.cells)
def funRes (f : RFun) : List Res := prmRow f :: blkRow f :: f.blocks.flatMap blkRes
theorem mem_blkRes {f : RFun} {b : RBlk} {r : Res} (hb : b ∈ f.blocks) (hr : r ∈ blkRes b) : r ∈ funRes f := by
  unfold funRes
  exact List.mem_cons_of_mem _ (List.mem_cons_of_mem _ (List.mem_flatMap.2 ⟨b, hb, hr⟩))
section
variable {w0 w : World} {B : Nat} {M L : List Res} {g : RFun}
theorem FunAt.own (hh : Hp w0 B (M ++ L) w) (hs : ∀ r ∈ funRes g, r ∈ L) : FunAt w w.heap.size g := by
  have key : ∀ {A : Option Addr} {n c e s : Nat} {xs : List Value}, row (.slice A n c) e s n xs ∈ funRes g → Reads w w.heap.size s A n xs := fun hm => by
    obtain ⟨i, hi⟩ := List.mem_iff_getElem?.1 (hs _ hm)
    exact Reads.row hh hi
  exact ⟨key (List.mem_cons_self ..), key (List.mem_cons_of_mem _ (List.mem_cons_self ..)), fun b hb => key (mem_blkRes hb (List.mem_cons_self ..)), fun b hb i hi => key (mem_blkRes hb (List.mem_cons_of_mem _ (List.mem_map_of_mem hi)))⟩
theorem cap_row {A : Option Addr} {n c e s : Nat} {xs : List Value} (h : w.ownsRow 0 e s (.slice A n c) n xs) : n ≤ c := by
  rcases h.2 with ⟨hv, h0⟩ | ⟨g, cap, cur, hv, _, _, hn, _⟩
  · omega
  · injection hv with _ _ hc
    omega
/-- Its numbers are numbers, it is not endless. -/
structure FitC (f : RFun) : Prop where
  params : ∀ n ∈ f.params, -9223372036854775808 ≤ n ∧ n ≤ 9223372036854775807
  plen : f.params.length < 2 ^ 50
  blen : f.blocks.length < 2 ^ 50
  ilen : ∀ b ∈ f.blocks, b.ins.length < 2 ^ 50
  term : ∀ b ∈ f.blocks, ∀ n ∈ [b.term.kind, b.term.a, b.term.t0, b.term.t1], -9223372036854775808 ≤ n ∧ n ≤ 9223372036854775807
  insr : ∀ b ∈ f.blocks, ∀ i ∈ b.ins, ∀ n ∈ [i.op, i.dst, i.a, i.b, i.imm, i.callee, i.many], -9223372036854775808 ≤ n ∧ n ≤ 9223372036854775807
  alen : ∀ b ∈ f.blocks, ∀ i ∈ b.ins, i.args.length < 2 ^ 50
  argr : ∀ b ∈ f.blocks, ∀ i ∈ b.ins, ∀ n ∈ i.args, -9223372036854775808 ≤ n ∧ n ≤ 9223372036854775807
theorem Fit.c {f : RFun} (h : Fit f) : FitC f := ⟨h.params, h.plen, h.blen, h.ilen, h.term, h.insr, h.alen, h.argr⟩
theorem FitC.fit (h : FitC g) (hh : Hp w0 B (M ++ L) w) (hs : ∀ r ∈ funRes g, r ∈ L) : Fit g := by
  have key : ∀ {A : Option Addr} {n c e s : Nat} {xs : List Value}, row (.slice A n c) e s n xs ∈ funRes g → n ≤ c := fun hm => cap_row (hh.has _ (List.mem_append_right _ (hs _ hm)))
  exact ⟨h.params, h.plen, h.blen, key (List.mem_cons_self ..), key (List.mem_cons_of_mem _ (List.mem_cons_self ..)), h.ilen, fun b hb => key (mem_blkRes hb (List.mem_cons_self ..)), h.term, h.insr, h.alen, fun b hb i hi => key (mem_blkRes hb (List.mem_cons_of_mem _ (List.mem_map_of_mem hi))), h.argr⟩
theorem FitC.bare {f : RFun} (h : FitC f) : FitC f.bare := by
  have hb : ∀ b ∈ f.bare.blocks, ∃ y ∈ f.blocks, b = y.bare := fun b hb => by
    obtain ⟨y, hy, e⟩ := List.mem_map.1 hb
    exact ⟨y, hy, e.symm⟩
  have hi : ∀ (y : RBlk), ∀ i ∈ y.bare.ins, ∃ j ∈ y.ins, i = j.bare := fun y i hi => by
    obtain ⟨j, hj, e⟩ := List.mem_map.1 hi
    exact ⟨j, hj, e.symm⟩
  refine ⟨h.params, h.plen, by simpa [RFun.bare] using h.blen, fun b hb' => ?_, fun b hb' => ?_, fun b hb' i hi' => ?_, fun b hb' i hi' => ?_, fun b hb' i hi' => ?_⟩
  · obtain ⟨y, hy, rfl⟩ := hb b hb'
    simpa [RBlk.bare] using h.ilen y hy
  · obtain ⟨y, hy, rfl⟩ := hb b hb'
    exact h.term y hy
  all_goals
    obtain ⟨y, hy, rfl⟩ := hb b hb'
    obtain ⟨j, hj, rfl⟩ := hi y i hi'
    first | exact h.insr y hy j hj | exact h.alen y hy j hj | exact h.argr y hy j hj
theorem FitC.unbare {f : RFun} (h : FitC f.bare) : FitC f := by
  have hb : ∀ b ∈ f.blocks, b.bare ∈ f.bare.blocks := fun b hb => List.mem_map_of_mem hb
  have hi : ∀ (y : RBlk), ∀ i ∈ y.ins, i.bare ∈ y.bare.ins := fun y i hi => List.mem_map_of_mem hi
  exact ⟨h.params, h.plen, by simpa [RFun.bare] using h.blen, fun b hb' => by simpa [RBlk.bare] using h.ilen _ (hb b hb'), fun b hb' => h.term b.bare (hb b hb'), fun b hb' i hi' => h.insr b.bare (hb b hb') i.bare (hi b i hi'), fun b hb' i hi' => h.alen b.bare (hb b hb') i.bare (hi b i hi'), fun b hb' i hi' => h.argr b.bare (hb b hb') i.bare (hi b i hi')⟩
theorem FitC.same {f : RFun} (h : FitC f) (e : g.bare = f.bare) : FitC g := FitC.unbare (e ▸ h.bare)
end
theorem one_flatI (l : List RIns) : ∀ u ∈ l.flatMap RIns.cells, u.oneCell' = true := fun u hu => by
  obtain ⟨i, _, h⟩ := List.mem_flatMap.1 hu
  exact i.one u h
theorem one_flatB (l : List RBlk) : ∀ u ∈ l.flatMap RBlk.cells, u.oneCell' = true := fun u hu => by
  obtain ⟨i, _, h⟩ := List.mem_flatMap.1 hu
  exact i.one u h
theorem one_ints (l : List Int) : ∀ u ∈ ints l, u.oneCell' = true := fun u hu => by
  obtain ⟨n, _, rfl⟩ := List.mem_map.1 hu
  rfl
/-- The place of a row in what is held; written, it is the row of another. -/
theorem flat_set {α β : Type} {F : α → List β} {x x' : α} {q : Nat} {A A' : β} (hA : (F x)[q]? = some A) (hx' : F x' = (F x).set q A') : ∀ {l : List α} {b : Nat}, l[b]? = some x → ∃ j, (l.flatMap F)[j]? = some A ∧ (l.flatMap F).set j A' = (l.set b x').flatMap F
  | [], b, h => by simp at h
  | y :: l, 0, h => by
    have e : y = x := by simpa using h
    subst e
    have hq := (List.getElem?_eq_some_iff.1 hA).1
    refine ⟨q, ?_, ?_⟩
    · rw [List.flatMap_cons, List.getElem?_append_left hq]; exact hA
    · rw [List.flatMap_cons, List.set_append_left _ _ hq, List.set_cons_zero, List.flatMap_cons, hx']
  | y :: l, b + 1, h => by
    obtain ⟨j, h1, h2⟩ := flat_set hA hx' (l := l) (b := b) (by simpa using h)
    refine ⟨(F y).length + j, ?_, ?_⟩
    · rw [List.flatMap_cons, List.getElem?_append_right (by omega)]
      rw [show (F y).length + j - (F y).length = j by omega]; exact h1
    · rw [List.flatMap_cons, List.set_append_right _ _ (by omega), show (F y).length + j - (F y).length = j by omega, h2, List.set_cons_succ, List.flatMap_cons]
/-- A slice's literal of one value of several cells. -/
theorem bs1 {P : Program} {w0 : World} {B : Nat} {σ : Env} {L : List Res} {d : Option Nat} {ty T : TypeId} {pos : String} {af : Array Edge} {gd : Option (Nat × Bool)} {e s b : Nat} {parts : List (Nat × Operand)} {zv v : Value} {cs : List Value} (hT : SlT P T e s b) (hz : ZrT P e zv) (hv : v.cells = cs.toArray) (hs : cs.length = s) (hb : s ≤ 16777216 := by decide) (hp : parts.map (fun p => (p.1, ev σ p.2)) = [(0, v)] := by exact rfl) :
    Sp P w0 B ⟨d, .buildSlice T 1 parts.toArray, ty, pos, af, gd⟩ σ L (NewS e s 1 1 cs L) := by
  have hvs : ∀ u ∈ [v], u.cells.size = s := by
    intro u hu
    simp only [List.mem_singleton] at hu
    rw [hu, hv]; simpa using hs
  have h := bsn (d := d) (ty := ty) (pos := pos) (af := af) (gd := gd) (P := P) (w0 := w0) (B := B) (L := L) [v] hT hz hvs rfl (by simp only [List.length_singleton]; omega) (by simp [maxLen]) hp
  have e1 : [v].flatMap (fun v => v.cells.toList) = cs := by simp [hv]
  rwa [e1] at h
theorem flat_set_at {α β : Type} {F : α → List β} {s : Nat} (hs : ∀ x, (F x).length = s) {c : Nat} {A' : β} {x x' : α} (hc : c < s) (hx' : F x' = (F x).set c A') : ∀ {l : List α} {k : Nat}, l[k]? = some x → (l.flatMap F).set (k * s + c) A' = (l.set k x').flatMap F
  | [], k, h => by simp at h
  | y :: l, 0, h => by
    have e : y = x := by simpa using h
    subst e
    rw [List.flatMap_cons, Nat.zero_mul, Nat.zero_add, List.set_append_left _ _ (by rw [hs]; exact hc), List.set_cons_zero, List.flatMap_cons, hx']
  | y :: l, k + 1, h => by
    have ih := flat_set_at hs hc hx' (l := l) (k := k) (by simpa using h)
    rw [List.flatMap_cons, List.set_append_right _ _ (by rw [hs, Nat.add_mul]; omega), hs, show (k + 1) * s + c - s = k * s + c by rw [Nat.add_mul]; omega, ih, List.set_cons_succ, List.flatMap_cons]
theorem flat_set_same {α β : Type} {F : α → List β} {y y' : α} (hF : F y' = F y) : ∀ {l : List α} {b : Nat}, l[b]? = some y → (l.set b y').flatMap F = l.flatMap F
  | [], b, h => by simp at h
  | z :: l, 0, h => by
    have e : z = y := by simpa using h
    subst e
    rw [List.set_cons_zero, List.flatMap_cons, List.flatMap_cons, hF]
  | z :: l, b + 1, h => by
    rw [List.set_cons_succ, List.flatMap_cons, List.flatMap_cons, flat_set_same hF (l := l) (b := b) (by simpa using h)]
def RFun.with (g : RFun) (bs : List RBlk) : RFun := { g with blocks := bs }
/-- Its instructions' row is written. -/
theorem own_ins {g : RFun} {b : Nat} {y : RBlk} (hb : g.blocks[b]? = some y) : ∃ j, (funRes g)[j]? = some (insRow y) ∧ ∀ l' : List RIns, l'.length = y.ins.length → l'.map insRes = y.ins.map insRes →
    (funRes g).set j (row (.slice y.iA y.ins.length y.iC) 25 8 y.ins.length (l'.flatMap RIns.cells)) = funRes (g.with (g.blocks.set b { y with ins := l' })) := by
  have key : ∀ l' : List RIns, l'.length = y.ins.length → l'.map insRes = y.ins.map insRes → ∃ j, (g.blocks.flatMap blkRes)[j]? = some (insRow y) ∧ (g.blocks.flatMap blkRes).set j (row (.slice y.iA y.ins.length y.iC) 25 8 y.ins.length (l'.flatMap RIns.cells)) = (g.blocks.set b { y with ins := l' }).flatMap blkRes := fun l' h1 h2 => by
    refine flat_set (q := 0) (x := y) (x' := { y with ins := l' }) rfl ?_ hb
    unfold blkRes insRow
    simp only [h1, h2, List.set_cons_zero]
  have hj : ∃ j, (g.blocks.flatMap blkRes)[j]? = some (insRow y) ∧ ∀ A', (g.blocks.flatMap blkRes).set j A' = (g.blocks.take b).flatMap blkRes ++ (A' :: y.ins.map insRes) ++ (g.blocks.drop (b + 1)).flatMap blkRes := by
    have hs := split_at hb
    have e : g.blocks.flatMap blkRes = (g.blocks.take b).flatMap blkRes ++ (insRow y :: y.ins.map insRes) ++ (g.blocks.drop (b + 1)).flatMap blkRes := by
      rw (occs := .pos [1]) [hs]
      rw [List.flatMap_append, List.flatMap_cons, ← List.append_assoc]
      rfl
    refine ⟨((g.blocks.take b).flatMap blkRes).length, ?_, fun A' => ?_⟩
    · rw [e, List.append_assoc, List.getElem?_append_right (Nat.le_refl _)]; simp
    · rw [e, List.append_assoc, List.set_append_right _ _ (Nat.le_refl _)]; simp
  obtain ⟨j, h1, h2⟩ := hj
  refine ⟨j + 2, h1, fun l' h3 h4 => ?_⟩
  show prmRow g :: blkRow g :: (g.blocks.flatMap blkRes).set j _ = _
  have hset : g.blocks.set b { y with ins := l' } = g.blocks.take b ++ { y with ins := l' } :: g.blocks.drop (b + 1) := set_split hb
  have hcells : (g.blocks.set b { y with ins := l' }).flatMap RBlk.cells = g.blocks.flatMap RBlk.cells := flat_set_same (by simp [RBlk.cells, h3]) hb
  unfold funRes
  congr 1
  congr 1
  · unfold blkRow RFun.with
    simp only [hcells, List.length_set]
  · rw [h2]
    show _ = (g.blocks.set b { y with ins := l' }).flatMap blkRes
    rw [hset, List.flatMap_append, List.flatMap_cons, ← List.append_assoc]
    congr 1
    congr 1
    unfold blkRes insRow
    simp only [h3, h4]
/-- An instruction's list is written. -/
theorem own_args {g : RFun} {b q : Nat} {y : RBlk} {i : RIns} (hb : g.blocks[b]? = some y) (hi : y.ins[q]? = some i) : ∃ j, (funRes g)[j]? = some (insRes i) ∧ ∀ ls : List Int, ls.length = i.args.length →
    (funRes g).set j (row (.slice i.aA i.args.length i.aC) 3 1 i.args.length (ints ls)) = funRes (g.with (g.blocks.set b { y with ins := y.ins.set q { i with args := ls } })) := by
  have e : g.blocks.flatMap blkRes = (g.blocks.take b).flatMap blkRes ++ (insRow y :: (y.ins.take q).map insRes) ++ (insRes i :: ((y.ins.drop (q + 1)).map insRes ++ (g.blocks.drop (b + 1)).flatMap blkRes)) := by
    have hs := split_at hb
    have hi2 := split_at hi
    have hbe : blkRes y = insRow y :: ((y.ins.take q).map insRes ++ insRes i :: (y.ins.drop (q + 1)).map insRes) := by
      unfold blkRes
      congr 1
      rw [← List.map_cons, ← List.map_append, ← hi2]
    rw (occs := .pos [1]) [hs]
    rw [List.flatMap_append, List.flatMap_cons, hbe]
    simp
  refine ⟨((g.blocks.take b).flatMap blkRes ++ (insRow y :: (y.ins.take q).map insRes)).length + 2, ?_, fun ls h3 => ?_⟩
  · refine Eq.trans (b := (g.blocks.flatMap blkRes)[((g.blocks.take b).flatMap blkRes ++ (insRow y :: (y.ins.take q).map insRes)).length]?) rfl ?_
    rw [e, List.getElem?_append_right (Nat.le_refl _)]; simp
  · show prmRow g :: blkRow g :: (g.blocks.flatMap blkRes).set _ _ = _
    have hc2 : (y.ins.set q { i with args := ls }).flatMap RIns.cells = y.ins.flatMap RIns.cells := flat_set_same (by simp [RIns.cells, h3]) hi
    have hcells : (g.blocks.set b { y with ins := y.ins.set q { i with args := ls } }).flatMap RBlk.cells = g.blocks.flatMap RBlk.cells := flat_set_same (by simp [RBlk.cells]) hb
    unfold funRes
    congr 1
    congr 1
    · unfold blkRow RFun.with
      simp only [hcells, List.length_set]
    · rw [e, List.set_append_right _ _ (Nat.le_refl _)]
      show _ = (g.blocks.set b { y with ins := y.ins.set q { i with args := ls } }).flatMap blkRes
      rw [set_split hb, List.flatMap_append, List.flatMap_cons]
      have hb2 : blkRes { y with ins := y.ins.set q { i with args := ls } } = insRow y :: ((y.ins.take q).map insRes ++ (row (.slice i.aA i.args.length i.aC) 3 1 i.args.length (ints ls) :: (y.ins.drop (q + 1)).map insRes)) := by
        unfold blkRes
        congr 1
        · unfold insRow
          simp only [List.length_set, hc2]
        · show (y.ins.set q { i with args := ls }).map insRes = _
          rw [set_split hi, List.map_append, List.map_cons]
          congr 2
          unfold insRes
          simp only [h3]
      rw [hb2]
      simp
/-- The row of blocks is written. -/
theorem own_blk {g : RFun} {b : Nat} {y y' : RBlk} (hb : g.blocks[b]? = some y) (hr : blkRes y' = blkRes y) : (funRes g).set 1 (row (.slice g.bA g.blocks.length g.bC) 34 5 g.blocks.length ((g.blocks.set b y').flatMap RBlk.cells)) = funRes (g.with (g.blocks.set b y')) := by
  have h2 : (g.blocks.set b y').flatMap blkRes = g.blocks.flatMap blkRes := flat_set_same hr hb
  unfold funRes
  show prmRow g :: _ :: g.blocks.flatMap blkRes = prmRow g :: blkRow (g.with (g.blocks.set b y')) :: (g.blocks.set b y').flatMap blkRes
  rw [h2]
  unfold blkRow RFun.with
  simp
/-- The k first ones have turned. -/
def turnTo {α : Type} (r : α → α) (l : List α) (k : Nat) : List α := (l.take k).map r ++ l.drop k
theorem turnTo_zero {α : Type} (r : α → α) (l : List α) : turnTo r l 0 = l := by simp [turnTo]
theorem turnTo_all {α : Type} (r : α → α) (l : List α) : turnTo r l l.length = l.map r := by simp [turnTo]
theorem turnTo_len {α : Type} (r : α → α) (l : List α) (k : Nat) : (turnTo r l k).length = l.length := by simp [turnTo]; omega
theorem turnTo_get {α : Type} {r : α → α} {l : List α} {k : Nat} {x : α} (h : l[k]? = some x) : (turnTo r l k)[k]? = some x := by
  have hk := (List.getElem?_eq_some_iff.1 h).1
  unfold turnTo
  have hl : ((l.take k).map r).length = k := by simp; omega
  rw [List.getElem?_append_right (by omega), hl, List.getElem?_drop]
  simpa using h
theorem turnTo_set {α : Type} {r : α → α} {l : List α} {k : Nat} {x : α} (h : l[k]? = some x) : (turnTo r l k).set k (r x) = turnTo r l (k + 1) := by
  have hk := (List.getElem?_eq_some_iff.1 h).1
  unfold turnTo
  have hl : ((l.take k).map r).length = k := by simp; omega
  rw [List.set_append_right _ _ (by omega), hl, Nat.sub_self, List.drop_eq_getElem_cons hk, List.set_cons_zero, take_snoc_ h, List.map_append]
  simp
def RIns.at_ (i : RIns) (A : Option Addr) (c : Nat) : RIns := { i with aA := A, aC := c }
theorem RIns.at_bare (i : RIns) (A : Option Addr) (c : Nat) : (i.at_ A c).bare = i.bare := rfl
def RBlk.at_ (b : RBlk) (A : Option Addr) (c : Nat) (l : List RIns) : RBlk := { b with iA := A, iC := c, ins := l }
theorem RBlk.at_bare {b : RBlk} {A : Option Addr} {c : Nat} {l : List RIns} (h : l.map RIns.bare = b.ins.map RIns.bare) : (b.at_ A c l).bare = b.bare := by
  unfold RBlk.bare RBlk.at_
  simp only [h]
/-- A list of blocks that can be read from outside. -/
structure BlksIn (w : World) (B : Nat) (A : Option Addr) (l : List RBlk) : Prop where
  row : Reads w B 5 A l.length (l.flatMap RBlk.cells)
  ins : ∀ b ∈ l, Reads w B 8 b.iA b.ins.length (b.ins.flatMap RIns.cells)
  args : ∀ b ∈ l, ∀ i ∈ b.ins, Reads w B 1 i.aA i.args.length (ints i.args)
  len : l.length < 2 ^ 36
  ilen : ∀ b ∈ l, b.ins.length < 2 ^ 36
  alen : ∀ b ∈ l, ∀ i ∈ b.ins, i.args.length < 2 ^ 44
theorem BlksIn.now {w0 w : World} {B : Nat} {A : Option Addr} {l : List RBlk} {L : List Res} (h : BlksIn w0 B A l) (hh : Hp w0 B L w) : BlksIn w w.heap.size A l :=
  ⟨h.row.now hh, fun b hb => (h.ins b hb).now hh, fun b hb i hi => (h.args b hb i hi).now hh, h.len, h.ilen, h.alen⟩
end Go.Proofs.YtcojedoejpcolaaGreat

/- The kit: whole functions are compared, walked. -/
namespace Go.Proofs.YtcojedoejpcolaaGreat
set_option linter.unusedVariables false
open Go Go.RowKit
set_option maxRecDepth 100000

/-- Where a block's lists lie. -/
structure BlkR (w : World) (B : Nat) (x : RBlk) : Prop where
  ins : Reads w B 8 x.iA x.ins.length (x.ins.flatMap RIns.cells)
  args : ∀ i ∈ x.ins, Reads w B 1 i.aA i.args.length (ints i.args)
  alen : ∀ i ∈ x.ins, i.args.length < 2 ^ 60
  ilen : x.ins.length < 2 ^ 60
theorem BlkR.now {w0 w : World} {B : Nat} {L : List Res} {x : RBlk} (h : BlkR w0 B x) (hh : Hp w0 B L w) : BlkR w w.heap.size x := ⟨h.ins.now hh, fun i hi => (h.args i hi).now hh, h.alen, h.ilen⟩
section
set_option maxHeartbeats 1000000 in
theorem kit_SameBlock_ct {w : World} {a b : RBlk} (ha : BlkR w w.heap.size a) (hb : BlkR w w.heap.size b) : Ct Tryz.prog 98 #[a.val, b.val] w (Is (.bool (decide (a.bare = b.bare)))) := by
  refine Ct.mk Tryz.func98 rfl rfl ?_
  refine Cd.seq ?_
  refine Cd.region ?_
  refine Ol.x bxg ?_
  rintro _ _ ⟨g2, rfl, rfl⟩
  refine Ol.x bxg ?_
  rintro _ _ ⟨g3, rfl, rfl⟩
  refine Ol.p asb ?_
  refine Ol.nil ?_
  refine Cd.seq ?_
  cases h0 : decide (a.ins.map RIns.bare = b.ins.map RIns.bare) with
  | true =>
    refine Cd.region ?_
    refine Ol.p (fdl fd_api_Block_0) ?_
    refine Ol.p (ld (v := .slice a.iA a.ins.length a.iC) one_L_api_Ins (Rd.blk (i := 1) rfl rfl)) ?_
    refine Ol.p (fdl fd_api_Block_0) ?_
    refine Ol.p (ld (v := .slice b.iA b.ins.length b.iC) one_L_api_Ins (Rd.blk (i := 0) rfl rfl)) ?_
    refine Ol.s (cl en_kit_SameRow (fun M w' hh => kit_SameRow_ct (ha.ins.now hh) (hb.ins.now hh) (fun i hi => (ha.args i hi).now hh) (fun i hi => (hb.args i hi).now hh) ha.alen hb.alen ha.ilen hb.ilen)) ?_
    refine Ol.p mvb ?_
    refine Ol.gp h0 (fdl fd_api_Block_1) ?_
    refine Ol.gp h0 (ldp (k := 0 + 1) (vs := a.term.cells.toArray) ag_api_Term (i := 1) rfl rfl (fun j u hu => by rw [Nat.zero_add, Nat.add_comm]; simpa [RBlk.cells] using hu)) ?_
    refine Ol.gp h0 (fdl fd_api_Block_1) ?_
    refine Ol.gp h0 (ldp (k := 0 + 1) (vs := b.term.cells.toArray) ag_api_Term (i := 0) rfl rfl (fun j u hu => by rw [Nat.zero_add, Nat.add_comm]; simpa [RBlk.cells] using hu)) ?_
    refine Ol.gp h0 (eqT (s := a.term) (t := b.term) st_api_Term) ?_
    refine Ol.p (pkTb h0) ?_
    refine Ol.p asb ?_
    refine Ol.nil ?_
    refine Cd.ret ⟨.bool _, ret1 rfl rfl, [], Keep.nil, congrArg Value.bool ?_, rfl⟩
    have q0 := of_decide_eq_true h0
    rw [decide_eq_decide]
    unfold RBlk.bare
    simp [q0]
  | false =>
    refine Cd.region ?_
    refine Ol.p (fdl fd_api_Block_0) ?_
    refine Ol.p (ld (v := .slice a.iA a.ins.length a.iC) one_L_api_Ins (Rd.blk (i := 1) rfl rfl)) ?_
    refine Ol.p (fdl fd_api_Block_0) ?_
    refine Ol.p (ld (v := .slice b.iA b.ins.length b.iC) one_L_api_Ins (Rd.blk (i := 0) rfl rfl)) ?_
    refine Ol.s (cl en_kit_SameRow (fun M w' hh => kit_SameRow_ct (ha.ins.now hh) (hb.ins.now hh) (fun i hi => (ha.args i hi).now hh) (fun i hi => (hb.args i hi).now hh) ha.alen hb.alen ha.ilen hb.ilen)) ?_
    refine Ol.p mvb ?_
    refine Ol.gn h0 ?_
    refine Ol.gn h0 ?_
    refine Ol.gn h0 ?_
    refine Ol.gn h0 ?_
    refine Ol.gn h0 ?_
    refine Ol.p (pkFb h0) ?_
    refine Ol.p asb ?_
    refine Ol.nil ?_
    refine Cd.ret ⟨.bool false, ret1 rfl rfl, [], Keep.nil, congrArg Value.bool ?_, rfl⟩
    exact (decide_eq_false fun e => of_decide_eq_false h0 (congrArg RBlk.ins e : a.bare.ins = b.bare.ins)).symm
end
section
set_option maxHeartbeats 2000000 in
theorem kit_SameBlocks_ct {w : World} {A B : Option Addr} {c d : Nat} {a b : List RBlk} (hra : Reads w w.heap.size 5 A a.length (a.flatMap RBlk.cells)) (hrb : Reads w w.heap.size 5 B b.length (b.flatMap RBlk.cells)) (haa : ∀ x ∈ a, BlkR w w.heap.size x) (hba : ∀ x ∈ b, BlkR w w.heap.size x) (hal : a.length < 2 ^ 60) (hbl : b.length < 2 ^ 60) :
    Ct Tryz.prog 96 #[.slice A a.length c, .slice B b.length d] w (Is (.bool (decide (a.map RBlk.bare = b.map RBlk.bare)))) := by
  refine Ct.mk Tryz.func96 rfl rfl ?_
  refine Cd.seq ?_
  refine Cd.region ?_
  refine Ol.p asb ?_
  refine Ol.nil ?_
  refine Cd.seq ?_
  refine Cd.seq ?_
  refine Cd.region ?_
  refine Ol.p mvs ?_
  refine Ol.p (lens sl_L_api_Block) ?_
  refine Ol.p mvs ?_
  refine Ol.p (lens sl_L_api_Block) ?_
  refine Ol.p nei ?_
  refine Ol.nil ?_
  refine Cd.cond rfl (fun h => ?_) (fun h => ?_)   -- $10
  · have hne : a.map RBlk.bare ≠ b.map RBlk.bare := fun e => by
      have := congrArg List.length e
      simp at this
      rw [this] at h
      simp at h
    refine Cd.seq ?_
    refine Cd.region ?_
    refine Ol.p asb ?_
    refine Ol.nil ?_
    exact Cd.ret ⟨.bool false, ret1 rfl rfl, [], .nil, by rw [decide_eq_false hne], rfl⟩
  have hlen : a.length = b.length := by
    have : (a.length : Int) = (b.length : Int) := by simpa using h
    omega
  refine Cd.skip ?_
  refine Cd.seq ?_
  refine Cd.seq ?_
  refine Cd.region ?_
  refine Ol.p asi ?_
  refine Ol.nil ?_
  refine Cd.block ?_   -- 0
  refine Cd.loop (fun m σ L => ∃ k, m = a.length - k ∧ k ≤ a.length ∧ (a.take k).map RBlk.bare = (b.take k).map RBlk.bare ∧ Has σ [(0, .slice A a.length c), (1, .slice B b.length d), (5, .int .i64 k)] ∧ [] = L) (n := a.length) ⟨0, rfl, Nat.zero_le _, rfl, ⟨rfl, rfl, rfl, trivial⟩, rfl⟩ ?_
  rintro _ σ L ⟨k, rfl, hk, hsame, hs, rfl⟩
  refine Cd.has hs ?_
  refine Cd.seq ?_
  refine Cd.seq ?_
  refine Cd.region ?_
  refine Ol.p mvi ?_
  refine Ol.p mvs ?_
  refine Ol.p (lens sl_L_api_Block) ?_
  refine Ol.p lsi ?_
  refine Ol.nil ?_
  refine Cd.cond rfl (fun h => ?_) (fun h => ?_)   -- $14
  · have hlt : k < a.length := by
      simp only [decide_eq_true_eq] at h; omega
    obtain ⟨x, hx⟩ : ∃ x, a[k]? = some x := ⟨_, List.getElem?_eq_getElem hlt⟩
    obtain ⟨y, hy⟩ : ∃ y, b[k]? = some y := ⟨_, List.getElem?_eq_getElem (by omega)⟩
    have hxm := List.mem_of_getElem? hx
    have hym := List.mem_of_getElem? hy
    refine Cd.skip ?_
    refine Cd.seq ?_
    refine Cd.block ?_   -- 1
    refine Cd.seq ?_
    refine Cd.draw mixed 10 (exIs (fun opNo => match opNo with | 8 => some (.bool (decide (x.bare = y.bare))) | _ => none)) (fun _ => []) (by kernel_rfl) exIs_in (fun u hu => ?_)
    refine Wk.p mvs ?_
    refine Wk.p mvi ?_
    refine Wk.p (ixn (ix := k) sl_L_api_Block (Som.slc hra (by omega))) ?_
    refine Wk.p (lds (es := x.cells) ag_api_Block hra x.len (fun j u hu => blk_cell hx hu)) ?_
    refine Wk.p mvs ?_
    refine Wk.p mvi ?_
    refine Wk.p (ixn (ix := k) sl_L_api_Block (Som.slc hrb (by omega))) ?_
    refine Wk.p (lds (es := y.cells) ag_api_Block hrb y.len (fun j u hu => blk_cell hy hu)) ?_
    refine Wk.dk hu (sp_call en_kit_SameBlock (fun M w' hh => kit_SameBlock_ct ((haa x hxm).now hh) ((hba y hym).now hh))) ?_
    refine Wk.p noti ?_
    refine Wk.nil ?_
    rw [needs_exIs hu rfl]
    refine Ol.nil ?_
    refine Cd.cond rfl (fun h => ?_) (fun h => ?_)   -- $26
    · have hne : x.bare ≠ y.bare := by simpa using h
      refine Cd.seq ?_
      refine Cd.region ?_
      refine Ol.p asb ?_
      refine Ol.nil ?_
      exact Cd.ret ⟨.bool false, ret1 rfl rfl, [], .nil, by rw [decide_eq_false (bare_ne hx hy hne)], rfl⟩
    have heq : x.bare = y.bare := by simpa using h
    refine Cd.skip ?_
    refine Cd.region ?_
    refine Ol.p mvi ?_
    refine Ol.p addi ?_
    refine Ol.p asi ?_
    refine Ol.nil ?_
    refine ⟨a.length - (k + 1), by omega, k + 1, rfl, by omega, ?_, ⟨rfl, rfl, rfl, trivial⟩, rfl⟩
    rw [take_snoc_ hx, take_snoc_ hy, List.map_append, List.map_append, hsame, List.map_singleton, List.map_singleton, heq]
  have hke : k = a.length := by
    simp only [decide_eq_false_iff_not] at h; omega
  have heq : a.map RBlk.bare = b.map RBlk.bare := by
    rw [hke, List.take_of_length_le (Nat.le_refl _), hlen, List.take_of_length_le (Nat.le_refl _)] at hsame
    exact hsame
  refine Cd.exit (id := 0) ?_
  refine Cd.seq ?_
  refine Cd.region ?_
  refine Ol.p asb ?_
  refine Ol.nil ?_
  exact Cd.ret ⟨.bool true, ret1 rfl rfl, [], .nil, by rw [decide_eq_true heq], rfl⟩
end
section
set_option maxHeartbeats 1000000 in
theorem kit_SameFunc_ct {w : World} {f g : RFun} (hf : FunAt w w.heap.size f) (hg : FunAt w w.heap.size g) (hff : FitC f) (hgf : FitC g) : Ct Tryz.prog 59 #[f.val, g.val] w (Is (.bool (decide (f.bare = g.bare)))) := by
  have hfp := hff.plen
  have hgp := hgf.plen
  have hfb := hff.blen
  have hgb := hgf.blen
  have hfr : ∀ x ∈ f.blocks, BlkR w w.heap.size x := fun x hx => ⟨hf.ins x hx, hf.args x hx, fun i hi => by have := hff.alen x hx i hi; omega, by have := hff.ilen x hx; omega⟩
  have hgr : ∀ x ∈ g.blocks, BlkR w w.heap.size x := fun x hx => ⟨hg.ins x hx, hg.args x hx, fun i hi => by have := hgf.alen x hx i hi; omega, by have := hgf.ilen x hx; omega⟩
  refine Ct.mk Tryz.func59 rfl rfl ?_
  refine Cd.seq ?_
  refine Cd.region ?_
  refine Ol.x bxg ?_
  rintro _ _ ⟨g2, rfl, rfl⟩
  refine Ol.x bxg ?_
  rintro _ _ ⟨g3, rfl, rfl⟩
  refine Ol.p asb ?_
  refine Ol.nil ?_
  refine Cd.seq ?_
  cases h0 : decide (f.params = g.params) with
  | true =>
    refine Cd.region ?_
    refine Ol.p (fdl fd_api_Func_0) ?_
    refine Ol.p (ld (v := .slice f.pA f.params.length f.pC) one_L_int (Rd.blk (i := 1) rfl rfl)) ?_
    refine Ol.p (fdl fd_api_Func_0) ?_
    refine Ol.p (ld (v := .slice g.pA g.params.length g.pC) one_L_int (Rd.blk (i := 0) rfl rfl)) ?_
    refine Ol.s (cl en_kit_SameInts (fun M w' hh => kit_SameInts_ct (hf.params.now hh) (hg.params.now hh) (by omega) (by omega))) ?_
    refine Ol.p mvb ?_
    refine Ol.gp h0 (fdl fd_api_Func_1) ?_
    refine Ol.gp h0 (ld (v := .slice f.bA f.blocks.length f.bC) one_L_api_Block (Rd.blk (i := 1) rfl rfl)) ?_
    refine Ol.gp h0 (fdl fd_api_Func_1) ?_
    refine Ol.gp h0 (ld (v := .slice g.bA g.blocks.length g.bC) one_L_api_Block (Rd.blk (i := 0) rfl rfl)) ?_
    refine Ol.gs h0 (cl en_kit_SameBlocks (fun M w' hh => kit_SameBlocks_ct (hf.blocks.now hh) (hg.blocks.now hh) (fun x hx => (hfr x hx).now hh) (fun x hx => (hgr x hx).now hh) (by omega) (by omega))) ?_
    refine Ol.p (pkTb h0) ?_
    refine Ol.p asb ?_
    refine Ol.nil ?_
    refine Cd.ret ⟨.bool _, ret1 rfl rfl, [], Keep.nil, congrArg Value.bool ?_, rfl⟩
    have q0 := of_decide_eq_true h0
    rw [decide_eq_decide]
    unfold RFun.bare
    simp [q0]
  | false =>
    refine Cd.region ?_
    refine Ol.p (fdl fd_api_Func_0) ?_
    refine Ol.p (ld (v := .slice f.pA f.params.length f.pC) one_L_int (Rd.blk (i := 1) rfl rfl)) ?_
    refine Ol.p (fdl fd_api_Func_0) ?_
    refine Ol.p (ld (v := .slice g.pA g.params.length g.pC) one_L_int (Rd.blk (i := 0) rfl rfl)) ?_
    refine Ol.s (cl en_kit_SameInts (fun M w' hh => kit_SameInts_ct (hf.params.now hh) (hg.params.now hh) (by omega) (by omega))) ?_
    refine Ol.p mvb ?_
    refine Ol.gn h0 ?_
    refine Ol.gn h0 ?_
    refine Ol.gn h0 ?_
    refine Ol.gn h0 ?_
    refine Ol.gn h0 ?_
    refine Ol.p (pkFb h0) ?_
    refine Ol.p asb ?_
    refine Ol.nil ?_
    refine Cd.ret ⟨.bool false, ret1 rfl rfl, [], Keep.nil, congrArg Value.bool ?_, rfl⟩
    exact (decide_eq_false fun e => of_decide_eq_false h0 (congrArg RFun.params e : f.bare.params = g.bare.params)).symm
end
end Go.Proofs.YtcojedoejpcolaaGreat

/- The kit: what is lent lies ahead of marks, and is looked at again, walked. -/
namespace Go.Proofs.YtcojedoejpcolaaGreat
set_option linter.unusedVariables false
set_option linter.unusedSimpArgs false
open Go Go.RowKit
set_option maxRecDepth 100000

theorem Cd.capl {C : Ctx} {k : Code} {Q : Exit → Env → List Res → Prop} {σ : Env} {L : List Res} {i n c e s : Nat} {A : Option Addr} {xs : List Value} (hi : L[i]? = some (row (.slice A n c) e s n xs)) (hc : n ≤ c → Cd C k Q σ L) : Cd C k Q σ L := fun a w ha hs =>
  hc (cap_row (hs.heap.at_ hi)) a w ha hs
def mkN (k i : Nat) : Int := ((1000003 * (k + 7) + i : Nat) : Int)
def MI (k i : Nat) : RIns := ⟨0, 0, 0, 0, mkN k i, 0, none, 0, [], 0⟩
def MB (k i : Nat) : RBlk := ⟨none, 0, [], ⟨0, mkN k i, 0, 0⟩⟩
/-- The marks behind a list. -/
def mkL (j : Nat) : List Int := (List.range j).map (mkN 1)
def mkIL (j : Nat) : List RIns := (List.range j).map (MI 1)
def mkBL (j : Nat) : List RBlk := (List.range j).map (MB 1)
theorem mkL_len (j : Nat) : (mkL j).length = j := by simp [mkL]
theorem mkIL_len (j : Nat) : (mkIL j).length = j := by simp [mkIL]
theorem mkBL_len (j : Nat) : (mkBL j).length = j := by simp [mkBL]
theorem mkL_succ (j : Nat) : mkL (j + 1) = mkL j ++ [mkN 1 j] := by simp [mkL, List.range_succ]
theorem mkIL_succ (j : Nat) : mkIL (j + 1) = mkIL j ++ [MI 1 j] := by simp [mkIL, List.range_succ]
theorem mkBL_succ (j : Nat) : mkBL (j + 1) = mkBL j ++ [MB 1 j] := by simp [mkBL, List.range_succ]
theorem mk_at {α : Type} {l : List α} {F : Nat → α} {j : Nat} (hj : j < 12) : (l ++ (List.range 12).map F)[l.length + j]? = some (F j) := by
  rw [List.getElem?_append_right (by omega), Nat.add_sub_cancel_left, List.getElem?_map, List.getElem?_range hj]
  rfl
theorem mk_old {α : Type} {l m : List α} {k : Nat} {x : α} (h : l[k]? = some x) : (l ++ m)[k]? = some x := by
  rw [List.getElem?_append_left (List.getElem?_eq_some_iff.1 h).1]; exact h
def lInt (A : Option Addr) (c : Nat) (l : List Int) : Res := row (.slice A (l.length + 12) c) 3 1 (l.length + 12) (ints (l ++ mkL 12))
def insLent (i : RIns) : Res := lInt i.aA i.aC i.args
def lIns (A : Option Addr) (c : Nat) (l : List RIns) : Res := row (.slice A (l.length + 12) c) 25 8 (l.length + 12) ((l ++ mkIL 12).flatMap RIns.cells)
def blkLent (b : RBlk) : List Res := lIns b.iA b.iC b.ins :: b.ins.map insLent
def lBlk (A : Option Addr) (c : Nat) (l : List RBlk) : Res := row (.slice A (l.length + 12) c) 34 5 (l.length + 12) ((l ++ mkBL 12).flatMap RBlk.cells)
def funLent (f : RFun) : List Res := lInt f.pA f.pC f.params :: lBlk f.bA f.bC f.blocks :: f.blocks.flatMap blkLent
theorem Reads.lentI {w : World} {B : Nat} {A : Option Addr} {l : List Int} (h : Reads w B 1 A (l.length + 12) (ints (l ++ mkL 12))) : Reads w B 1 A l.length (ints l) := by
  have := h.pre (k := l.length) (by omega)
  have e : (ints (l ++ mkL 12)).take (l.length * 1) = ints l := by
    unfold ints
    rw [List.map_append, Nat.mul_one]
    exact List.take_left' (by simp)
  rwa [e] at this
theorem Reads.lentN {w : World} {B : Nat} {A : Option Addr} {l : List RIns} (h : Reads w B 8 A (l.length + 12) ((l ++ mkIL 12).flatMap RIns.cells)) : Reads w B 8 A l.length (l.flatMap RIns.cells) := by
  have := h.pre (k := l.length) (by omega)
  have e : ((l ++ mkIL 12).flatMap RIns.cells).take (l.length * 8) = l.flatMap RIns.cells := by
    rw [List.flatMap_append]
    exact List.take_left' (flat_len RIns.len l)
  rwa [e] at this
theorem Reads.lentB {w : World} {B : Nat} {A : Option Addr} {l : List RBlk} (h : Reads w B 5 A (l.length + 12) ((l ++ mkBL 12).flatMap RBlk.cells)) : Reads w B 5 A l.length (l.flatMap RBlk.cells) := by
  have := h.pre (k := l.length) (by omega)
  have e : ((l ++ mkBL 12).flatMap RBlk.cells).take (l.length * 5) = l.flatMap RBlk.cells := by
    rw [List.flatMap_append]
    exact List.take_left' (flat_len RBlk.len l)
  rwa [e] at this
/-- Where what is lent lies. -/
structure BlkL (w : World) (B : Nat) (x : RBlk) : Prop where
  ins : Reads w B 8 x.iA (x.ins.length + 12) ((x.ins ++ mkIL 12).flatMap RIns.cells)
  ic : x.ins.length + 12 ≤ x.iC
  args : ∀ i ∈ x.ins, Reads w B 1 i.aA (i.args.length + 12) (ints (i.args ++ mkL 12))
  ac : ∀ i ∈ x.ins, i.args.length + 12 ≤ i.aC
theorem BlkL.now {w0 w : World} {B : Nat} {L : List Res} {x : RBlk} (h : BlkL w0 B x) (hh : Hp w0 B L w) : BlkL w w.heap.size x := ⟨h.ins.now hh, h.ic, fun i hi => (h.args i hi).now hh, h.ac⟩
structure LentAt (w : World) (B : Nat) (g : RFun) : Prop where
  params : Reads w B 1 g.pA (g.params.length + 12) (ints (g.params ++ mkL 12))
  pc : g.params.length + 12 ≤ g.pC
  blocks : Reads w B 5 g.bA (g.blocks.length + 12) ((g.blocks ++ mkBL 12).flatMap RBlk.cells)
  bc : g.blocks.length + 12 ≤ g.bC
  blk : ∀ b ∈ g.blocks, BlkL w B b
theorem LentAt.now {w0 w : World} {B : Nat} {L : List Res} {g : RFun} (h : LentAt w0 B g) (hh : Hp w0 B L w) : LentAt w w.heap.size g := ⟨h.params.now hh, h.pc, h.blocks.now hh, h.bc, fun b hb => (h.blk b hb).now hh⟩
theorem LentAt.fun_ {w : World} {B : Nat} {g : RFun} (h : LentAt w B g) : FunAt w B g := ⟨h.params.lentI, h.blocks.lentB, fun b hb => (h.blk b hb).ins.lentN, fun b hb i hi => ((h.blk b hb).args i hi).lentI⟩
theorem LentAt.fit {w : World} {B : Nat} {g : RFun} (h : LentAt w B g) (hc : FitC g) : Fit g := ⟨hc.params, hc.plen, hc.blen, by have := h.pc; omega, by have := h.bc; omega, hc.ilen, fun b hb => by have := (h.blk b hb).ic; omega, hc.term, hc.insr, hc.alen, fun b hb i hi => by have := (h.blk b hb).ac i hi; omega, hc.argr⟩
theorem mem_blkLent {f : RFun} {b : RBlk} {r : Res} (hb : b ∈ f.blocks) (hr : r ∈ blkLent b) : r ∈ funLent f := by
  unfold funLent
  exact List.mem_cons_of_mem _ (List.mem_cons_of_mem _ (List.mem_flatMap.2 ⟨b, hb, hr⟩))
theorem LentAt.own {w0 w : World} {B : Nat} {M L : List Res} {g : RFun} (hh : Hp w0 B (M ++ L) w) (hs : ∀ r ∈ funLent g, r ∈ L) : LentAt w w.heap.size g := by
  have key : ∀ {A : Option Addr} {n c e s : Nat} {xs : List Value}, row (.slice A n c) e s n xs ∈ funLent g → Reads w w.heap.size s A n xs := fun hm => by
    obtain ⟨i, hi⟩ := List.mem_iff_getElem?.1 (hs _ hm)
    exact Reads.row hh hi
  have cap : ∀ {A : Option Addr} {n c e s : Nat} {xs : List Value}, row (.slice A n c) e s n xs ∈ funLent g → n ≤ c := fun hm => cap_row (hh.has _ (List.mem_append_right _ (hs _ hm)))
  have h1 : lInt g.pA g.pC g.params ∈ funLent g := List.mem_cons_self ..
  have h2 : lBlk g.bA g.bC g.blocks ∈ funLent g := List.mem_cons_of_mem _ (List.mem_cons_self ..)
  refine ⟨key h1, cap h1, key h2, cap h2, fun b hb => ?_⟩
  have h3 : lIns b.iA b.iC b.ins ∈ funLent g := mem_blkLent hb (List.mem_cons_self ..)
  have h4 : ∀ i ∈ b.ins, insLent i ∈ funLent g := fun i hi => mem_blkLent hb (List.mem_cons_of_mem _ (List.mem_map_of_mem hi))
  exact ⟨key h3, cap h3, fun i hi => key (h4 i hi), fun i hi => cap (h4 i hi)⟩
theorem reads_none_ {w : World} {B s : Nat} : Reads w B s none 0 [] := ⟨by simp, fun h => absurd h (by omega)⟩
section
theorem kit_mark_ct {w : World} {k i : Nat} (hk : k < 100000) (hi : i < 2 ^ 40) : Ct Tryz.prog 54 #[.int .i64 (k : Int), .int .i64 (i : Int)] w (Is (.int .i64 (mkN k i))) := by
  refine Ct.mk Tryz.func54 rfl rfl ?_
  refine Cd.seq ?_
  refine Cd.region ?_
  refine Ol.p asi ?_
  refine Ol.nil ?_
  refine Cd.seq ?_
  refine Cd.region ?_
  refine Ol.p mvi ?_
  refine Ol.p addi ?_
  refine Ol.p muli ?_
  refine Ol.p mvi ?_
  refine Ol.p addi ?_
  refine Ol.p asi ?_
  refine Ol.nil ?_
  exact Cd.ret ⟨.int .i64 _, ret1 rfl rfl, [], Keep.nil, congrArg (Value.int .i64) (by unfold mkN; omega), rfl⟩
end
section
theorem kit_markIns_ct {w : World} {k i : Nat} (hk : k < 100000) (hi : i < 2 ^ 40) : Ct Tryz.prog 140 #[.int .i64 (k : Int), .int .i64 (i : Int)] w (Is (MI k i).val) := by
  refine Ct.mk Tryz.func140 rfl rfl ?_
  refine Cd.seq ?_
  refine Cd.region ?_
  refine Ol.x (alc zr_api_Ins) ?_
  rintro _ _ ⟨g4, rfl, rfl⟩
  refine Ol.nil ?_
  refine Cd.seq ?_
  refine Cd.region ?_
  refine Ol.p mvi ?_
  refine Ol.p mvi ?_
  refine Ol.s (cl en_kit_mark (fun M w' hh => kit_mark_ct hk hi)) ?_
  refine Ol.p (bds (cs := (MI k i).cells.toArray) bs_api_Ins zr_api_Ins (hf := by kernel_rfl)) ?_
  refine Ol.s (stw (vs := (MI k i).cells.toArray) sz_api_Ins rfl (MI k i).one (i := 0) rfl rfl) ?_
  refine Ol.nil ?_
  exact Cd.ret ⟨_, retc rfl ag_api_Ins rfl (i := 0) rfl rfl, [], Keep.nil, rfl, rfl⟩
end
section
theorem kit_markBlock_ct {w : World} {k i : Nat} (hk : k < 100000) (hi : i < 2 ^ 40) : Ct Tryz.prog 93 #[.int .i64 (k : Int), .int .i64 (i : Int)] w (Is (MB k i).val) := by
  refine Ct.mk Tryz.func93 rfl rfl ?_
  refine Cd.seq ?_
  refine Cd.region ?_
  refine Ol.x (alc zr_api_Block) ?_
  rintro _ _ ⟨g4, rfl, rfl⟩
  refine Ol.nil ?_
  refine Cd.seq ?_
  refine Cd.region ?_
  refine Ol.p mvi ?_
  refine Ol.p mvi ?_
  refine Ol.s (cl en_kit_mark (fun M w' hh => kit_mark_ct hk hi)) ?_
  refine Ol.p (bds (cs := #[.int .i64 0, .int .i64 (mkN k i), .int .i64 0, .int .i64 0]) bs_api_Term zr_api_Term (hf := by kernel_rfl)) ?_
  refine Ol.p (bds (cs := (MB k i).cells.toArray) bs_api_Block zr_api_Block (hf := by kernel_rfl)) ?_
  refine Ol.s (stw (vs := (MB k i).cells.toArray) sz_api_Block rfl (MB k i).one (i := 0) rfl rfl) ?_
  refine Ol.nil ?_
  exact Cd.ret ⟨_, retc rfl ag_api_Block rfl (i := 0) rfl rfl, [], Keep.nil, rfl, rfl⟩
end
section
set_option maxHeartbeats 1000000 in
theorem kit_LentInts_ct {w : World} {A : Option Addr} {c : Nat} {l : List Int} (hl : Reads w w.heap.size 1 A l.length (ints l)) (hlen : l.length < 2 ^ 40) : Ct Tryz.prog 14 #[.slice A l.length c] w (fun v R => ∃ A' c', v = .slice A' l.length c' ∧ R = [lInt A' c' l]) := by
  refine Ct.mk Tryz.func14 rfl rfl ?_
  refine Cd.seq ?_
  refine Cd.region ?_
  refine Ol.p ass ?_
  refine Ol.nil ?_
  refine Cd.seq ?_
  refine Cd.region ?_
  refine Ol.p mvs ?_
  refine Ol.p (lens sl_L_int) ?_
  refine Ol.p addi ?_
  refine Ol.x (mks (n := 0) (c := l.length + 12) sl_L_int zr_int (hy := congrArg (Value.int .i64) (show (l.length : Int) + 12 = ((l.length + 12 : Nat) : Int) by omega))) ?_
  rintro _ _ ⟨gm, rfl, rfl⟩
  refine Ol.p ass ?_
  refine Ol.nil ?_
  rw [Nat.zero_mul, List.take_zero]
  refine Cd.seq ?_
  refine Cd.region ?_
  refine Ol.p mvs ?_
  refine Ol.p mvs ?_
  refine Ol.x (apn (i := 0) (n := 0) (xs := []) (m := l.length) sl_L_int zr_int rfl (by decide) rfl (Src.slc hl) (one_ints l) (by unfold maxLen; omega) (by omega)) ?_
  rintro _ _ ⟨A1, c1, rfl, rfl⟩
  refine Ol.p ass ?_
  refine Ol.nil ?_
  rw [Nat.zero_add, List.nil_append]
  refine Cd.seq ?_
  refine Cd.seq ?_
  refine Cd.region ?_
  refine Ol.p asi ?_
  refine Ol.nil ?_
  refine Cd.block ?_
  refine Cd.loop (fun m σ L => ∃ (j : Nat) (A' : Option Addr) (c' : Nat), m = 12 - j ∧ j ≤ 12 ∧ Has σ [(0, .slice A l.length c), (3, .slice A' (l.length + j) c'), (4, .int .i64 j)] ∧ [row (.slice A' (l.length + j) c') 3 1 (l.length + j) (ints (l ++ mkL j))] = L) (n := 12) ⟨0, A1, c1, rfl, Nat.zero_le _, ⟨rfl, rfl, rfl, trivial⟩, by rw [show mkL 0 = [] from rfl, List.append_nil]; rfl⟩ ?_
  rintro _ σ L ⟨j, A', c', rfl, hj, hs, rfl⟩
  refine Cd.has hs ?_
  clear hs
  refine Cd.seq ?_
  refine Cd.seq ?_
  refine Cd.region ?_
  refine Ol.p mvi ?_
  refine Ol.p lsi ?_
  refine Ol.nil ?_
  refine Cd.cond rfl (fun h => ?_) (fun h => ?_)
  · have hlt : j < 12 := by
      have h : decide ((j : Int) < 12) = true := h
      have := of_decide_eq_true h
      omega
    refine Cd.skip ?_
    refine Cd.seq ?_
    refine Cd.block ?_
    refine Cd.region ?_
    refine Ol.p mvs ?_
    refine Ol.p mvi ?_
    refine Ol.s (cl (v := .int .i64 (mkN 1 j)) en_kit_mark (fun M w' hh => kit_mark_ct (k := 1) (by decide) (by omega))) ?_
    refine Ol.x (bsv [.int .i64 (mkN 1 j)] sl_L_int zr_int (by simp [Value.cells])) ?_
    rintro _ _ ⟨g19, rfl, rfl⟩
    refine Ol.x (apn (i := 1) (m := 1) sl_L_int zr_int rfl (by decide) rfl (Src.row (i := 0) rfl rfl) (by intro u hu; simp at hu; subst hu; rfl) (by unfold maxLen; omega) (by omega)) ?_
    rintro _ _ ⟨A2, c2, rfl, rfl⟩
    refine Ol.p ass ?_
    refine Ol.keep (.sub (.cons _ (List.Sublist.refl _))) ?_
    refine Ol.nil ?_
    refine Cd.region ?_
    refine Ol.p mvi ?_
    refine Ol.p addi ?_
    refine Ol.p asi ?_
    refine Ol.nil ?_
    refine ⟨12 - (j + 1), by omega, j + 1, A2, c2, rfl, by omega, ⟨rfl, rfl, rfl, trivial⟩, ?_⟩
    rw [mkL_succ, ← List.append_assoc, show ints (l ++ mkL j ++ [mkN 1 j]) = ints (l ++ mkL j) ++ [.int .i64 (mkN 1 j)] by simp [ints]]
    rfl
  have hje : j = 12 := by
    have h : decide ((j : Int) < 12) = false := h
    have := of_decide_eq_false h
    omega
  subst hje
  refine Cd.exit (id := 0) ?_
  refine Cd.capl (i := 0) (A := A') (n := l.length + 12) (c := c') rfl fun hcap => ?_
  refine Cd.seq ?_
  refine Cd.region ?_
  refine Ol.p mvs ?_
  refine Ol.p mvs ?_
  refine Ol.p (lens sl_L_int) ?_
  refine Ol.p (slh (A := A') (n := l.length + 12) (c := c') (h := l.length) sl_L_int (by omega)) ?_
  refine Ol.p ass ?_
  refine Ol.nil ?_
  exact Cd.ret ⟨_, ret1 rfl rfl, _, .all, A', c', rfl, rfl⟩
end
section
theorem kit_LentIns_ct {w : World} {i : RIns} (hl : Reads w w.heap.size 1 i.aA i.args.length (ints i.args)) (hlen : i.args.length < 2 ^ 40) : Ct Tryz.prog 157 #[i.val] w (fun v R => ∃ A c, v = (i.at_ A c).val ∧ R = [insLent (i.at_ A c)]) := by
  refine Ct.mk Tryz.func157 rfl rfl ?_
  refine Cd.seq ?_
  refine Cd.region ?_
  refine Ol.x bxg ?_
  rintro _ _ ⟨g1, rfl, rfl⟩
  refine Ol.x (alc zr_api_Ins) ?_
  rintro _ _ ⟨g2, rfl, rfl⟩
  refine Ol.nil ?_
  refine Cd.seq ?_
  refine Cd.region ?_
  refine Ol.p (fdl fd_api_Ins_6) ?_
  refine Ol.p (ld (v := .slice i.aA i.args.length i.aC) one_L_int (Rd.blk (i := 1) rfl rfl)) ?_
  refine Ol.x (sp_call en_kit_LentInts (fun M w' hh => kit_LentInts_ct (l := i.args) (hl.now hh) hlen)) ?_
  rintro _ _ ⟨_, rfl, A', c', rfl, rfl⟩
  refine Ol.p (fdl fd_api_Ins_6) ?_
  refine Ol.s (sto (v := .slice A' i.args.length c') (i := 2) (k := 0 + 6) (.inr sz_L_int) rfl rfl rfl (by simp [RIns.cells]) rfl) ?_
  refine Ol.nil ?_
  refine Cd.seq ?_
  refine Cd.region ?_
  refine Ol.p (ldw (cs := (i.at_ A' c').cells.toArray) ag_api_Ins (i := 2) rfl rfl) ?_
  refine Ol.s (stw (vs := (i.at_ A' c').cells.toArray) sz_api_Ins rfl (i.at_ A' c').one (i := 1) rfl rfl) ?_
  refine Ol.nil ?_
  exact Cd.ret ⟨_, retc rfl ag_api_Ins rfl (i := 1) rfl rfl, _, .sub (.cons_cons _ (.cons _ (.cons _ .slnil))), A', c', rfl, rfl⟩
end
section
def NewIlL (l : List RIns) : Value → List Res → Prop := fun v R => ∃ (l' : List RIns) (A : Option Addr) (c : Nat) (X : List Res), l'.map RIns.bare = l.map RIns.bare ∧ v = .slice A l'.length c ∧ X.Perm (l'.map insLent) ∧ R = lIns A c l' :: X
set_option maxHeartbeats 2000000 in
theorem kit_LentRow_ct {w : World} {A : Option Addr} {c : Nat} {l : List RIns} (hl : Reads w w.heap.size 8 A l.length (l.flatMap RIns.cells)) (ha : ∀ i ∈ l, Reads w w.heap.size 1 i.aA i.args.length (ints i.args)) (hlen : l.length < 2 ^ 36) (hal : ∀ i ∈ l, i.args.length < 2 ^ 40) : Ct Tryz.prog 133 #[.slice A l.length c] w (NewIlL l) := by
  refine Ct.mk Tryz.func133 rfl rfl ?_
  refine Cd.seq ?_
  refine Cd.region ?_
  refine Ol.p ass ?_
  refine Ol.nil ?_
  refine Cd.seq ?_
  refine Cd.region ?_
  refine Ol.p mvs ?_
  refine Ol.p (lens sl_L_api_Ins) ?_
  refine Ol.p addi ?_
  refine Ol.x (mks (n := 0) (c := l.length + 12) sl_L_api_Ins zr_api_Ins (hy := congrArg (Value.int .i64) (show (l.length : Int) + 12 = ((l.length + 12 : Nat) : Int) by omega))) ?_
  rintro _ _ ⟨gm, rfl, rfl⟩
  refine Ol.p ass ?_
  refine Ol.nil ?_
  rw [Nat.zero_mul, List.take_zero]
  refine Cd.mid (fun σ' L' => ∃ (l' : List RIns) (A' : Option Addr) (c' : Nat) (X : List Res), l'.map RIns.bare = l.map RIns.bare ∧ l'.length = l.length ∧ X.Perm (l'.map insLent) ∧ Has σ' [(0, .slice A l.length c), (3, .slice A' l'.length c')] ∧ row (.slice A' l'.length c') 25 8 l'.length (l'.flatMap RIns.cells) :: X = L') ?_ ?_
  · refine Cd.seq ?_
    refine Cd.region ?_
    refine Ol.p asi ?_
    refine Ol.nil ?_
    refine Cd.block ?_
    refine Cd.loop (fun m σ L => ∃ (k : Nat) (l' : List RIns) (A' : Option Addr) (c' : Nat) (X : List Res), m = l.length - k ∧ k ≤ l.length ∧ l'.map RIns.bare = (l.take k).map RIns.bare ∧ X.Perm (l'.map insLent) ∧ Has σ [(0, .slice A l.length c), (3, .slice A' l'.length c'), (4, .int .i64 k)] ∧ row (.slice A' l'.length c') 25 8 l'.length (l'.flatMap RIns.cells) :: X = L) (n := l.length) ⟨0, [], some ⟨gm, 0, none⟩, l.length + 12, [], rfl, Nat.zero_le _, rfl, .refl _, ⟨rfl, rfl, rfl, trivial⟩, rfl⟩ ?_
    rintro _ σ L ⟨k, l', A', c', X, rfl, hk, hbare, hX, hs, rfl⟩
    have hkl : l'.length = k := by
      have := congrArg List.length hbare
      simp at this; omega
    refine Cd.has hs ?_
    clear hs
    refine Cd.seq ?_
    refine Cd.seq ?_
    refine Cd.region ?_
    refine Ol.p mvi ?_
    refine Ol.p mvs ?_
    refine Ol.p (lens sl_L_api_Ins) ?_
    refine Ol.p lsi ?_
    refine Ol.nil ?_
    refine Cd.cond rfl (fun h => ?_) (fun h => ?_)
    · have hlt : k < l.length := by
        simp only [decide_eq_true_eq] at h; omega
      obtain ⟨i, hi⟩ : ∃ i, l[k]? = some i := ⟨_, List.getElem?_eq_getElem hlt⟩
      have him := List.mem_of_getElem? hi
      have hial := hal i him
      refine Cd.skip ?_
      refine Cd.seq ?_
      refine Cd.block ?_
      refine Cd.seq ?_
      refine Cd.region ?_
      refine Ol.p mvs ?_
      refine Ol.p mvi ?_
      refine Ol.p (ixn (ix := k) sl_L_api_Ins (Som.slc hl (by omega))) ?_
      refine Ol.p (lds (es := i.cells) ag_api_Ins hl i.len (fun j u hu => ins_cell hi hu)) ?_
      refine Ol.x (sp_call en_kit_LentIns (fun M w' hh => kit_LentIns_ct ((ha i him).now hh) hial)) ?_
      rintro _ _ ⟨_, rfl, Ai, ci, rfl, rfl⟩
      refine Ol.x (alc zr_api_Ins) ?_
      rintro _ _ ⟨g5, rfl, rfl⟩
      refine Ol.s (stw (vs := (i.at_ Ai ci).cells.toArray) sz_api_Ins rfl (i.at_ Ai ci).one (i := 0) rfl rfl) ?_
      refine Ol.nil ?_
      refine Cd.region ?_
      refine Ol.p mvs ?_
      refine Ol.p (ldw (cs := (i.at_ Ai ci).cells.toArray) ag_api_Ins (i := 0) rfl rfl) ?_
      refine Ol.x (bs1 (cs := (i.at_ Ai ci).cells) sl_L_api_Ins zr_api_Ins rfl rfl) ?_
      rintro _ _ ⟨g19, rfl, rfl⟩
      refine Ol.x (apn (i := 3) (m := 1) sl_L_api_Ins zr_api_Ins rfl (by decide) rfl (Src.row (i := 0) rfl rfl) (i.at_ Ai ci).one (by unfold maxLen; omega) (by omega)) ?_
      rintro _ _ ⟨A2, c2, rfl, rfl⟩
      refine Ol.p ass ?_
      refine Ol.keep (keep_count (L' := row (.slice A2 (l'.length + 1) c2) 25 8 (l'.length + 1) (l'.flatMap RIns.cells ++ (i.at_ Ai ci).cells) :: insLent (i.at_ Ai ci) :: X) [row (.slice (some ⟨g19, 0, none⟩) 1 1) 25 8 1 (i.at_ Ai ci).cells, blk g5 (.cells (i.at_ Ai ci).cells.toArray 25)] fun _ x => by simp only [List.set_cons_succ, List.set_cons_zero, List.count_append, List.count_cons, List.count_nil, List.cons_append, List.nil_append]; omega) ?_
      refine Ol.nil ?_
      refine Cd.region ?_
      refine Ol.p mvi ?_
      refine Ol.p addi ?_
      refine Ol.p asi ?_
      refine Ol.nil ?_
      have e1 : l'.length + 1 = (l' ++ [i.at_ Ai ci]).length := by simp
      have e2 : l'.flatMap RIns.cells ++ (i.at_ Ai ci).cells = (l' ++ [i.at_ Ai ci]).flatMap RIns.cells := by simp
      rw [e1, e2]
      refine ⟨l.length - (k + 1), by omega, k + 1, l' ++ [i.at_ Ai ci], A2, c2, insLent (i.at_ Ai ci) :: X, rfl, by omega, ?_, ?_, ⟨rfl, rfl, rfl, trivial⟩, rfl⟩
      · rw [take_snoc_ hi, List.map_append, List.map_append, hbare]; rfl
      · rw [List.map_append]
        exact ((hX.cons _).trans (List.perm_append_singleton _ _).symm)
    have hke : k = l.length := by
      simp only [decide_eq_false_iff_not] at h; omega
    rw [hke, List.take_of_length_le (Nat.le_refl _)] at hbare
    refine Cd.exit (id := 0) ?_
    exact ⟨l', A', c', X, hbare, by omega, hX, ⟨rfl, rfl, trivial⟩, rfl⟩
  rintro σ' _ ⟨l', A', c', X, hbare, hll, hX, hs', rfl⟩
  refine Cd.has hs' ?_
  clear hs'
  refine Cd.seq ?_
  refine Cd.seq ?_
  refine Cd.region ?_
  refine Ol.p asi ?_
  refine Ol.nil ?_
  refine Cd.block ?_
  refine Cd.loop (fun m σ L => ∃ (j : Nat) (A' : Option Addr) (c' : Nat), m = 12 - j ∧ j ≤ 12 ∧ Has σ [(0, .slice A l.length c), (3, .slice A' (l'.length + j) c'), (6, .int .i64 j)] ∧ row (.slice A' (l'.length + j) c') 25 8 (l'.length + j) ((l' ++ mkIL j).flatMap RIns.cells) :: X = L) (n := 12) ⟨0, A', c', rfl, Nat.zero_le _, ⟨rfl, rfl, rfl, trivial⟩, by rw [show mkIL 0 = [] from rfl, List.append_nil]; rfl⟩ ?_
  rintro _ σ L ⟨j, A', c', rfl, hj, hs, rfl⟩
  refine Cd.has hs ?_
  clear hs
  refine Cd.seq ?_
  refine Cd.seq ?_
  refine Cd.region ?_
  refine Ol.p mvi ?_
  refine Ol.p lsi ?_
  refine Ol.nil ?_
  refine Cd.cond rfl (fun h => ?_) (fun h => ?_)
  · have hlt : j < 12 := by
      have h : decide ((j : Int) < 12) = true := h
      have := of_decide_eq_true h
      omega
    refine Cd.skip ?_
    refine Cd.seq ?_
    refine Cd.block ?_
    refine Cd.region ?_
    refine Ol.p mvs ?_
    refine Ol.p mvi ?_
    refine Ol.s (cl (v := (MI 1 j).val) en_kit_markIns (fun M w' hh => kit_markIns_ct (k := 1) (by decide) (by omega))) ?_
    refine Ol.x (bs1 (v := (MI 1 j).val) (cs := (MI 1 j).cells) sl_L_api_Ins zr_api_Ins rfl rfl) ?_
    rintro _ _ ⟨g33, rfl, rfl⟩
    refine Ol.x (apn (i := 1) (m := 1) sl_L_api_Ins zr_api_Ins rfl (by decide) rfl (Src.row (i := 0) rfl rfl) (MI 1 j).one (by unfold maxLen; omega) (by omega)) ?_
    rintro _ _ ⟨A2, c2, rfl, rfl⟩
    refine Ol.p ass ?_
    refine Ol.keep (.sub (.cons _ (List.Sublist.refl _))) ?_
    refine Ol.nil ?_
    refine Cd.region ?_
    refine Ol.p mvi ?_
    refine Ol.p addi ?_
    refine Ol.p asi ?_
    refine Ol.nil ?_
    refine ⟨12 - (j + 1), by omega, j + 1, A2, c2, rfl, by omega, ⟨rfl, rfl, rfl, trivial⟩, ?_⟩
    rw [mkIL_succ, ← List.append_assoc, List.flatMap_append (xs := l' ++ mkIL j), List.flatMap_singleton]
    rfl
  have hje : j = 12 := by
    have h : decide ((j : Int) < 12) = false := h
    have := of_decide_eq_false h
    omega
  subst hje
  refine Cd.exit (id := 2) ?_
  refine Cd.capl (i := 0) (A := A') (n := l'.length + 12) (c := c') rfl fun hcap => ?_
  refine Cd.seq ?_
  refine Cd.region ?_
  refine Ol.p mvs ?_
  refine Ol.p mvs ?_
  refine Ol.p (lens sl_L_api_Ins) ?_
  refine Ol.p (slh (A := A') (n := l'.length + 12) (c := c') (h := l.length) sl_L_api_Ins (by omega)) ?_
  refine Ol.p ass ?_
  refine Ol.nil ?_
  exact Cd.ret ⟨.slice A' l.length c', ret1 rfl rfl, _, .all, l', A', c', X, hbare, (show Value.slice A' l.length c' = .slice A' l'.length c' by rw [hll]), hX, rfl⟩
end
section
theorem kit_LentBlock_ct {w : World} {b : RBlk} (hl : Reads w w.heap.size 8 b.iA b.ins.length (b.ins.flatMap RIns.cells)) (ha : ∀ i ∈ b.ins, Reads w w.heap.size 1 i.aA i.args.length (ints i.args)) (hlen : b.ins.length < 2 ^ 36) (hal : ∀ i ∈ b.ins, i.args.length < 2 ^ 40) : Ct Tryz.prog 92 #[b.val] w (fun v R => ∃ b' : RBlk, b'.bare = b.bare ∧ v = b'.val ∧ R.Perm (blkLent b')) := by
  refine Ct.mk Tryz.func92 rfl rfl ?_
  refine Cd.seq ?_
  refine Cd.region ?_
  refine Ol.x bxg ?_
  rintro _ _ ⟨g1, rfl, rfl⟩
  refine Ol.x (alc zr_api_Block) ?_
  rintro _ _ ⟨g2, rfl, rfl⟩
  refine Ol.nil ?_
  refine Cd.seq ?_
  refine Cd.region ?_
  refine Ol.p (fdl fd_api_Block_0) ?_
  refine Ol.p (ld (v := .slice b.iA b.ins.length b.iC) one_L_api_Ins (Rd.blk (i := 1) rfl rfl)) ?_
  refine Ol.x (sp_call en_kit_LentRow (fun M w' hh => kit_LentRow_ct (l := b.ins) (hl.now hh) (fun i hi => (ha i hi).now hh) hlen hal)) ?_
  rintro _ _ ⟨_, rfl, l', A', c', X, hb, rfl, hX, rfl⟩
  refine Ol.keep Keep.comm ?_
  refine Ol.p (fdl fd_api_Block_0) ?_
  refine Ol.s (sto (v := .slice A' l'.length c') (i := 1) (k := 0 + 0) (.inr sz_L_api_Ins) rfl rfl rfl (by simp [RBlk.cells]) rfl) ?_
  refine Ol.nil ?_
  refine Cd.seq ?_
  refine Cd.region ?_
  refine Ol.p (ldw (cs := (b.at_ A' c' l').cells.toArray) ag_api_Block (i := 1) rfl rfl) ?_
  refine Ol.s (stw (vs := (b.at_ A' c' l').cells.toArray) sz_api_Block rfl (b.at_ A' c' l').one (i := 0) rfl rfl) ?_
  refine Ol.nil ?_
  exact Cd.ret ⟨_, retc rfl ag_api_Block rfl (i := 0) rfl rfl, _, .sub (.cons _ (.cons _ (List.Sublist.refl _))), b.at_ A' c' l', RBlk.at_bare hb, rfl, hX.cons _⟩
end
section
def NewBlL (l : List RBlk) : Value → List Res → Prop := fun v R => ∃ (l' : List RBlk) (A : Option Addr) (c : Nat) (X : List Res), l'.map RBlk.bare = l.map RBlk.bare ∧ v = .slice A l'.length c ∧ X.Perm (l'.flatMap blkLent) ∧ R = lBlk A c l' :: X
set_option maxHeartbeats 2000000 in
theorem kit_LentBlocks_ct {w : World} {A : Option Addr} {c : Nat} {l : List RBlk} (hl : BlksIn w w.heap.size A l) (hal : ∀ b ∈ l, ∀ i ∈ b.ins, i.args.length < 2 ^ 40) : Ct Tryz.prog 53 #[.slice A l.length c] w (NewBlL l) := by
  have hlen := hl.len
  refine Ct.mk Tryz.func53 rfl rfl ?_
  refine Cd.seq ?_
  refine Cd.region ?_
  refine Ol.p ass ?_
  refine Ol.nil ?_
  refine Cd.seq ?_
  refine Cd.region ?_
  refine Ol.p mvs ?_
  refine Ol.p (lens sl_L_api_Block) ?_
  refine Ol.p addi ?_
  refine Ol.x (mks (n := 0) (c := l.length + 12) sl_L_api_Block zr_api_Block (hy := congrArg (Value.int .i64) (show (l.length : Int) + 12 = ((l.length + 12 : Nat) : Int) by omega))) ?_
  rintro _ _ ⟨gm, rfl, rfl⟩
  refine Ol.p ass ?_
  refine Ol.nil ?_
  rw [Nat.zero_mul, List.take_zero]
  refine Cd.mid (fun σ' L' => ∃ (l' : List RBlk) (A' : Option Addr) (c' : Nat) (X : List Res), l'.map RBlk.bare = l.map RBlk.bare ∧ l'.length = l.length ∧ X.Perm (l'.flatMap blkLent) ∧ Has σ' [(0, .slice A l.length c), (3, .slice A' l'.length c')] ∧ row (.slice A' l'.length c') 34 5 l'.length (l'.flatMap RBlk.cells) :: X = L') ?_ ?_
  · refine Cd.seq ?_
    refine Cd.region ?_
    refine Ol.p asi ?_
    refine Ol.nil ?_
    refine Cd.block ?_
    refine Cd.loop (fun m σ L => ∃ (k : Nat) (l' : List RBlk) (A' : Option Addr) (c' : Nat) (X : List Res), m = l.length - k ∧ k ≤ l.length ∧ l'.map RBlk.bare = (l.take k).map RBlk.bare ∧ X.Perm (l'.flatMap blkLent) ∧ Has σ [(0, .slice A l.length c), (3, .slice A' l'.length c'), (4, .int .i64 k)] ∧ row (.slice A' l'.length c') 34 5 l'.length (l'.flatMap RBlk.cells) :: X = L) (n := l.length) ⟨0, [], some ⟨gm, 0, none⟩, l.length + 12, [], rfl, Nat.zero_le _, rfl, .refl _, ⟨rfl, rfl, rfl, trivial⟩, rfl⟩ ?_
    rintro _ σ L ⟨k, l', A', c', X, rfl, hk, hbare, hX, hs, rfl⟩
    have hkl : l'.length = k := by
      have := congrArg List.length hbare
      simp at this; omega
    refine Cd.has hs ?_
    clear hs
    refine Cd.seq ?_
    refine Cd.seq ?_
    refine Cd.region ?_
    refine Ol.p mvi ?_
    refine Ol.p mvs ?_
    refine Ol.p (lens sl_L_api_Block) ?_
    refine Ol.p lsi ?_
    refine Ol.nil ?_
    refine Cd.cond rfl (fun h => ?_) (fun h => ?_)
    · have hlt : k < l.length := by
        simp only [decide_eq_true_eq] at h; omega
      obtain ⟨b, hb⟩ : ∃ b, l[k]? = some b := ⟨_, List.getElem?_eq_getElem hlt⟩
      have hbm := List.mem_of_getElem? hb
      refine Cd.skip ?_
      refine Cd.seq ?_
      refine Cd.block ?_
      refine Cd.seq ?_
      refine Cd.region ?_
      refine Ol.p mvs ?_
      refine Ol.p mvi ?_
      refine Ol.p (ixn (ix := k) sl_L_api_Block (Som.slc hl.row (by omega))) ?_
      refine Ol.p (lds (es := b.cells) ag_api_Block hl.row b.len (fun j u hu => blk_cell hb hu)) ?_
      refine Ol.x (sp_call en_kit_LentBlock (fun M w' hh => kit_LentBlock_ct (b := b) ((hl.ins b hbm).now hh) (fun i hi => (hl.args b hbm i hi).now hh) (hl.ilen b hbm) (hal b hbm))) ?_
      rintro _ _ ⟨Y, rfl, b', hb', rfl, hY⟩
      refine Ol.keep (L' := [row (.slice A' l'.length c') 34 5 l'.length (l'.flatMap RBlk.cells)] ++ (X ++ blkLent b')) ⟨[], perm_count fun _ x => by
        have := hY.count_eq x
        simp only [List.count_append, List.count_cons, List.cons_append, List.nil_append, List.append_nil]; omega⟩ ?_
      refine Ol.x (alc zr_api_Block) ?_
      rintro _ _ ⟨g5, rfl, rfl⟩
      refine Ol.s (stw (vs := b'.cells.toArray) sz_api_Block rfl b'.one (i := 0) rfl rfl) ?_
      refine Ol.nil ?_
      refine Cd.region ?_
      refine Ol.p mvs ?_
      refine Ol.p (ldw (cs := b'.cells.toArray) ag_api_Block (i := 0) rfl rfl) ?_
      refine Ol.x (bs1 (cs := b'.cells) sl_L_api_Block zr_api_Block rfl rfl) ?_
      rintro _ _ ⟨g19, rfl, rfl⟩
      refine Ol.x (apn (i := 2) (m := 1) sl_L_api_Block zr_api_Block rfl (by decide) rfl (Src.row (i := 0) rfl rfl) b'.one (by unfold maxLen; omega) (by omega)) ?_
      rintro _ _ ⟨A2, c2, rfl, rfl⟩
      refine Ol.p ass ?_
      refine Ol.keep (.sub (.cons _ (.cons _ (List.Sublist.refl _)))) ?_
      refine Ol.nil ?_
      refine Cd.region ?_
      refine Ol.p mvi ?_
      refine Ol.p addi ?_
      refine Ol.p asi ?_
      refine Ol.nil ?_
      have e1 : l'.length + 1 = (l' ++ [b']).length := by simp
      have e2 : l'.flatMap RBlk.cells ++ b'.cells = (l' ++ [b']).flatMap RBlk.cells := by simp
      rw [e1, e2]
      refine ⟨l.length - (k + 1), by omega, k + 1, l' ++ [b'], A2, c2, X ++ blkLent b', rfl, by omega, ?_, ?_, ⟨rfl, rfl, rfl, trivial⟩, rfl⟩
      · rw [take_snoc_ hb, List.map_append, List.map_append, hbare]; simp [hb']
      · rw [List.flatMap_append]
        refine List.Perm.append hX ?_
        simp
    have hke : k = l.length := by
      simp only [decide_eq_false_iff_not] at h; omega
    rw [hke, List.take_of_length_le (Nat.le_refl _)] at hbare
    refine Cd.exit (id := 0) ?_
    exact ⟨l', A', c', X, hbare, by omega, hX, ⟨rfl, rfl, trivial⟩, rfl⟩
  rintro σ' _ ⟨l', A', c', X, hbare, hll, hX, hs', rfl⟩
  refine Cd.has hs' ?_
  clear hs'
  refine Cd.seq ?_
  refine Cd.seq ?_
  refine Cd.region ?_
  refine Ol.p asi ?_
  refine Ol.nil ?_
  refine Cd.block ?_
  refine Cd.loop (fun m σ L => ∃ (j : Nat) (A' : Option Addr) (c' : Nat), m = 12 - j ∧ j ≤ 12 ∧ Has σ [(0, .slice A l.length c), (3, .slice A' (l'.length + j) c'), (6, .int .i64 j)] ∧ row (.slice A' (l'.length + j) c') 34 5 (l'.length + j) ((l' ++ mkBL j).flatMap RBlk.cells) :: X = L) (n := 12) ⟨0, A', c', rfl, Nat.zero_le _, ⟨rfl, rfl, rfl, trivial⟩, by rw [show mkBL 0 = [] from rfl, List.append_nil]; rfl⟩ ?_
  rintro _ σ L ⟨j, A', c', rfl, hj, hs, rfl⟩
  refine Cd.has hs ?_
  clear hs
  refine Cd.seq ?_
  refine Cd.seq ?_
  refine Cd.region ?_
  refine Ol.p mvi ?_
  refine Ol.p lsi ?_
  refine Ol.nil ?_
  refine Cd.cond rfl (fun h => ?_) (fun h => ?_)
  · have hlt : j < 12 := by
      have h : decide ((j : Int) < 12) = true := h
      have := of_decide_eq_true h
      omega
    refine Cd.skip ?_
    refine Cd.seq ?_
    refine Cd.block ?_
    refine Cd.region ?_
    refine Ol.p mvs ?_
    refine Ol.p mvi ?_
    refine Ol.s (cl (v := (MB 1 j).val) en_kit_markBlock (fun M w' hh => kit_markBlock_ct (k := 1) (by decide) (by omega))) ?_
    refine Ol.x (bs1 (v := (MB 1 j).val) (cs := (MB 1 j).cells) sl_L_api_Block zr_api_Block rfl rfl) ?_
    rintro _ _ ⟨g33, rfl, rfl⟩
    refine Ol.x (apn (i := 1) (m := 1) sl_L_api_Block zr_api_Block rfl (by decide) rfl (Src.row (i := 0) rfl rfl) (MB 1 j).one (by unfold maxLen; omega) (by omega)) ?_
    rintro _ _ ⟨A2, c2, rfl, rfl⟩
    refine Ol.p ass ?_
    refine Ol.keep (.sub (.cons _ (List.Sublist.refl _))) ?_
    refine Ol.nil ?_
    refine Cd.region ?_
    refine Ol.p mvi ?_
    refine Ol.p addi ?_
    refine Ol.p asi ?_
    refine Ol.nil ?_
    refine ⟨12 - (j + 1), by omega, j + 1, A2, c2, rfl, by omega, ⟨rfl, rfl, rfl, trivial⟩, ?_⟩
    rw [mkBL_succ, ← List.append_assoc, List.flatMap_append (xs := l' ++ mkBL j), List.flatMap_singleton]
    rfl
  have hje : j = 12 := by
    have h : decide ((j : Int) < 12) = false := h
    have := of_decide_eq_false h
    omega
  subst hje
  refine Cd.exit (id := 2) ?_
  refine Cd.capl (i := 0) (A := A') (n := l'.length + 12) (c := c') rfl fun hcap => ?_
  refine Cd.seq ?_
  refine Cd.region ?_
  refine Ol.p mvs ?_
  refine Ol.p mvs ?_
  refine Ol.p (lens sl_L_api_Block) ?_
  refine Ol.p (slh (A := A') (n := l'.length + 12) (c := c') (h := l.length) sl_L_api_Block (by omega)) ?_
  refine Ol.p ass ?_
  refine Ol.nil ?_
  exact Cd.ret ⟨.slice A' l.length c', ret1 rfl rfl, _, .all, l', A', c', X, hbare, (show Value.slice A' l.length c' = .slice A' l'.length c' by rw [hll]), hX, rfl⟩
end
section
theorem kit_LentFunc_ct {w : World} {f : RFun} (hf : FunAt w w.heap.size f) (hp : f.params.length < 2 ^ 40) (hl : BlksIn w w.heap.size f.bA f.blocks) (hal : ∀ b ∈ f.blocks, ∀ i ∈ b.ins, i.args.length < 2 ^ 40) : Ct Tryz.prog 13 #[f.val] w (fun v R => ∃ g : RFun, g.bare = f.bare ∧ v = g.val ∧ R.Perm (funLent g)) := by
  refine Ct.mk Tryz.func13 rfl rfl ?_
  refine Cd.seq ?_
  refine Cd.region ?_
  refine Ol.x bxg ?_
  rintro _ _ ⟨g1, rfl, rfl⟩
  refine Ol.x (alc zr_api_Func) ?_
  rintro _ _ ⟨g2, rfl, rfl⟩
  refine Ol.nil ?_
  refine Cd.seq ?_
  refine Cd.region ?_
  refine Ol.p (fdl fd_api_Func_0) ?_
  refine Ol.p (ld (v := .slice f.pA f.params.length f.pC) one_L_int (Rd.blk (i := 1) rfl rfl)) ?_
  refine Ol.x (sp_call en_kit_LentInts (fun M w' hh => kit_LentInts_ct (l := f.params) (hf.params.now hh) hp)) ?_
  rintro _ _ ⟨_, rfl, A', c', rfl, rfl⟩
  refine Ol.p (fdl fd_api_Func_0) ?_
  refine Ol.s (sto (v := .slice A' f.params.length c') (i := 2) (k := 0 + 0) (.inr sz_L_int) rfl rfl rfl (by simp [RFun.cells]) rfl) ?_
  refine Ol.nil ?_
  refine Cd.seq ?_
  refine Cd.region ?_
  refine Ol.p (fdl fd_api_Func_1) ?_
  refine Ol.p (ld (v := .slice f.bA f.blocks.length f.bC) one_L_api_Block (Rd.blk (i := 2) rfl rfl)) ?_
  refine Ol.x (sp_call en_kit_LentBlocks (fun M w' hh => kit_LentBlocks_ct (l := f.blocks) (hl.now hh) hal)) ?_
  rintro _ _ ⟨_, rfl, l', A2, c2, X, hb, rfl, hX, rfl⟩
  refine Ol.keep Keep.comm ?_
  obtain ⟨g, hg⟩ : ∃ g : RFun, g = ⟨A', c', f.params, A2, c2, l'⟩ := ⟨_, rfl⟩
  refine Ol.p (fdl fd_api_Func_1) ?_
  refine Ol.s (sto (v := .slice A2 l'.length c2) (i := 2) (k := 0 + 1) (.inr sz_L_api_Block) rfl rfl rfl (by simp [RFun.cells]) rfl) ?_
  refine Ol.nil ?_
  refine Cd.seq ?_
  refine Cd.region ?_
  refine Ol.p (ldw (cs := #[.slice A' f.params.length c', .slice A2 l'.length c2]) ag_api_Func (i := 2) rfl rfl) ?_
  refine Ol.s (stw (vs := #[.slice A' f.params.length c', .slice A2 l'.length c2]) sz_api_Func rfl (by intro u hu; simp at hu; rcases hu with rfl | rfl <;> rfl) (i := 1) rfl rfl) ?_
  refine Ol.nil ?_
  refine Cd.ret ⟨_, retc rfl ag_api_Func rfl (i := 1) rfl rfl, _, .sub (.cons_cons _ (.cons _ (.cons _ (List.Sublist.refl _)))), g, ?_, by rw [hg]; rfl, ?_⟩
  · rw [hg]
    unfold RFun.bare
    simp only [hb]
  · rw [hg]
    exact (hX.cons _).cons _
end
section
set_option maxHeartbeats 2000000 in
theorem kit_KeptInts_ct {w : World} {A B : Option Addr} {c d : Nat} {l : List Int} (hro : Reads w w.heap.size 1 A (l.length + 12) (ints (l ++ mkL 12))) (hc : l.length + 12 ≤ c) (hl : Reads w w.heap.size 1 B l.length (ints l)) (hlen : l.length < 2 ^ 40) : Ct Tryz.prog 21 #[.slice A l.length c, .slice B l.length d] w (Is (.bool true)) := by
  obtain ⟨l', hl'⟩ : ∃ l', l' = l := ⟨_, rfl⟩
  have hll : l'.length = l.length := by rw [hl']
  rw [show (Value.slice A l.length c) = .slice A l'.length c by rw [hll]]
  refine Ct.mk Tryz.func21 rfl rfl ?_
  refine Cd.seq ?_
  refine Cd.region ?_
  refine Ol.p asb ?_
  refine Ol.nil ?_
  refine Cd.seq ?_
  refine Cd.seq ?_
  refine Cd.region ?_
  refine Ol.p mvs ?_
  refine Ol.p (lens sl_L_int) ?_
  refine Ol.p mvs ?_
  refine Ol.p (lens sl_L_int) ?_
  refine Ol.p nei ?_
  refine Ol.nil ?_
  refine Cd.cond rfl (fun h => ?_) (fun _ => ?_)
  · exfalso
    have h : (!decide ((l'.length : Int) = (l.length : Int))) = true := h
    rw [decide_eq_true (by omega)] at h
    cases h
  refine Cd.skip ?_
  refine Cd.seq ?_
  refine Cd.region ?_
  refine Ol.p mvs ?_
  refine Ol.p mvs ?_
  refine Ol.p (lens sl_L_int) ?_
  refine Ol.p addi ?_
  refine Ol.p (slh (A := A) (c := c) (h := l.length + 12) sl_L_int (by omega) (hy := congrArg (Value.int .i64) (show (l.length : Int) + 12 = ((l.length + 12 : Nat) : Int) by omega))) ?_
  refine Ol.p ass ?_
  refine Ol.nil ?_
  refine Cd.seq ?_
  refine Cd.seq ?_
  refine Cd.region ?_
  refine Ol.p asi ?_
  refine Ol.nil ?_
  refine Cd.block ?_
  refine Cd.loop (fun m σ L => ∃ k, m = l.length + 12 - k ∧ k ≤ l.length + 12 ∧ Has σ [(1, .slice B l.length d), (5, .slice A (l.length + 12) c), (6, .int .i64 k)] ∧ [] = L) (n := l.length + 12) ⟨0, rfl, Nat.zero_le _, ⟨rfl, rfl, rfl, trivial⟩, rfl⟩ ?_
  rintro _ σ L ⟨k, rfl, hk, hs, rfl⟩
  refine Cd.has hs ?_
  clear hs
  refine Cd.seq ?_
  refine Cd.seq ?_
  refine Cd.region ?_
  refine Ol.p mvi ?_
  refine Ol.p mvs ?_
  refine Ol.p (lens sl_L_int) ?_
  refine Ol.p lsi ?_
  refine Ol.nil ?_
  refine Cd.cond rfl (fun h => ?_) (fun h => ?_)
  · have hlt : k < l.length + 12 := by
      have h : decide ((k : Int) < ((l.length + 12 : Nat) : Int)) = true := h
      have := of_decide_eq_true h
      omega
    refine Cd.skip ?_
    refine Cd.seq ?_
    refine Cd.block ?_
    refine Cd.mid (fun σ' L' => Has σ' [(1, .slice B l.length d), (5, .slice A (l.length + 12) c), (6, .int .i64 k), (57, .bool false)] ∧ [] = L') ?_ ?_
    · cases q4 : decide ((k : Int) < (l.length : Int)) with
      | true =>
        have hkl : k < l.length := by have := of_decide_eq_true q4; omega
        have q20 : decide ((l.length : Int) ≤ (k : Int)) = false := decide_eq_false (by omega)
        obtain ⟨x, hx⟩ : ∃ x, l'[k]? = some x := ⟨_, List.getElem?_eq_getElem (by omega)⟩
        obtain ⟨y, hy⟩ : ∃ y, l[k]? = some y := ⟨_, List.getElem?_eq_getElem hkl⟩
        have hxm := List.mem_of_getElem? hx
        have hym := List.mem_of_getElem? hy
        rw [hl'] at hx
        have q16 : (!decide (x = x)) = false := by simp
        refine Cd.draw mixed 35 (fun _ => none) (fun _ => []) (by kernel_rfl) (fun _ _ h => by cases h) (fun u hu => ?_)
        refine Wk.p mvi ?_
        refine Wk.p mvs ?_
        refine Wk.p (lens sl_L_int) ?_
        refine Wk.p lsi ?_
        refine Wk.p mvb ?_
        refine Wk.gp q4 mvs ?_
        refine Wk.gp q4 mvi ?_
        refine Wk.gp q4 (ixn (ix := k) sl_L_int (Som.slc hro (by omega))) ?_
        refine Wk.gp q4 (ld (v := .int .i64 x) one_int (Rd.slc hro (show (ints (l ++ mkL 12))[k * 1]? = some (.int .i64 x) from by rw [Nat.mul_one]; unfold ints; rw [List.getElem?_map, mk_old hx]; rfl))) ?_
        refine Wk.gp q4 mvs ?_
        refine Wk.gp q4 mvi ?_
        refine Wk.gp q4 (ixn (ix := k) sl_L_int (Som.slc hl (by omega))) ?_
        refine Wk.gp q4 (ld (v := .int .i64 x) one_int (Rd.slc hl (show (ints l)[k * 1]? = some (.int .i64 x) from by rw [Nat.mul_one]; unfold ints; rw [List.getElem?_map, hx]; rfl))) ?_
        refine Wk.gp q4 eqi ?_
        refine Wk.gp q4 noti ?_
        refine Wk.p (pkTb q4) ?_
        refine Wk.p mvb ?_
        refine Wk.gp q16 mvi ?_
        refine Wk.gp q16 mvs ?_
        refine Wk.gp q16 (lens sl_L_int) ?_
        refine Wk.gp q16 gei ?_
        refine Wk.gp q16 mvb ?_
        refine Wk.gn q20 ?_
        refine Wk.gn q20 ?_
        refine Wk.gn q20 ?_
        refine Wk.gn q20 ?_
        refine Wk.gn q20 ?_
        refine Wk.gn q20 ?_
        refine Wk.gn q20 ?_
        refine Wk.gn q20 ?_
        refine Wk.gn q20 ?_
        refine Wk.gn q20 ?_
        refine Wk.gn q20 ?_
        refine Wk.gp q16 (pkFb q20) ?_
        refine Wk.p (pkFb q16) ?_
        refine Wk.nil ?_
        refine Ol.nil ?_
        exact ⟨⟨rfl, rfl, rfl, rfl, trivial⟩, rfl⟩
      | false =>
        have hkl : l.length ≤ k := by have := of_decide_eq_false q4; omega
        have q20 : decide ((l.length : Int) ≤ (k : Int)) = true := decide_eq_true (by omega)
        obtain ⟨j, hj⟩ : ∃ j, k = l.length + j := ⟨k - l.length, by omega⟩
        have hjv : ((k : Int) - (l.length : Int)) = (j : Int) := by omega
        have hz := mk_at (l := l') (F := mkN 1) (j := j) (by omega)
        rw [hll, ← hj, hl'] at hz
        have hmk : ∀ w', Ct Tryz.prog 54 #[.int .i64 1, .int .i64 ((k : Int) - (l.length : Int))] w' (Is (.int .i64 (mkN 1 j))) := fun w' => by
          rw [hjv]
          exact kit_mark_ct (k := 1) (by decide) (by omega)
        have q31 : (!decide (mkN 1 j = mkN 1 j)) = false := by simp
        refine Cd.draw mixed 35 (exIs (fun opNo => match opNo with | 30 => some ((.int .i64 (mkN 1 j))) | _ => none)) (fun _ => []) (by kernel_rfl) exIs_in (fun u hu => ?_)
        refine Wk.p mvi ?_
        refine Wk.p mvs ?_
        refine Wk.p (lens sl_L_int) ?_
        refine Wk.p lsi ?_
        refine Wk.p mvb ?_
        refine Wk.gn q4 ?_
        refine Wk.gn q4 ?_
        refine Wk.gn q4 ?_
        refine Wk.gn q4 ?_
        refine Wk.gn q4 ?_
        refine Wk.gn q4 ?_
        refine Wk.gn q4 ?_
        refine Wk.gn q4 ?_
        refine Wk.gn q4 ?_
        refine Wk.gn q4 ?_
        refine Wk.p (pkFb q4) ?_
        refine Wk.p mvb ?_
        refine Wk.gp rfl mvi ?_
        refine Wk.gp rfl mvs ?_
        refine Wk.gp rfl (lens sl_L_int) ?_
        refine Wk.gp rfl gei ?_
        refine Wk.gp rfl mvb ?_
        refine Wk.gp q20 mvs ?_
        refine Wk.gp q20 mvi ?_
        refine Wk.gp q20 (ixn (ix := k) sl_L_int (Som.slc hro (by omega))) ?_
        refine Wk.gp q20 (ld (v := .int .i64 (mkN 1 j)) one_int (Rd.slc hro (show (ints (l ++ mkL 12))[k * 1]? = some (.int .i64 (mkN 1 j)) from by rw [Nat.mul_one]; unfold ints; rw [List.getElem?_map, show (l ++ mkL 12)[k]? = some (mkN 1 j) from hz]; rfl))) ?_
        refine Wk.gp q20 mvi ?_
        refine Wk.gp q20 mvs ?_
        refine Wk.gp q20 (lens sl_L_int) ?_
        refine Wk.gp q20 subi ?_
        refine Wk.gdk hu q20 (sp_call (vs := [.int .i64 1, .int .i64 ((k : Int) - (l.length : Int))]) en_kit_mark (fun M w' hh => hmk w')) ?_
        refine Wk.gp q20 eqi ?_
        refine Wk.gp q20 noti ?_
        refine Wk.gp rfl (pkTb q20) ?_
        refine Wk.p (pkFb rfl) ?_
        refine Wk.nil ?_
        rw [needs_exIs hu rfl]
        refine Ol.nil ?_
        exact ⟨⟨rfl, rfl, rfl, congrArg Value.bool q31, trivial⟩, rfl⟩
    rintro σ' _ ⟨hs', rfl⟩
    refine Cd.has hs' ?_
    clear hs'
    refine Cd.cond rfl (fun h => by cases h) (fun _ => ?_)
    refine Cd.skip ?_
    refine Cd.region ?_
    refine Ol.p mvi ?_
    refine Ol.p addi ?_
    refine Ol.p asi ?_
    refine Ol.nil ?_
    exact ⟨l.length + 12 - (k + 1), by omega, k + 1, rfl, by omega, ⟨rfl, rfl, rfl, trivial⟩, rfl⟩
  refine Cd.exit (id := 0) ?_
  refine Cd.seq ?_
  refine Cd.region ?_
  refine Ol.p asb ?_
  refine Ol.nil ?_
  exact Cd.ret ⟨.bool true, ret1 rfl rfl, [], Keep.nil, rfl, rfl⟩
end
section
theorem kit_KeptIns_ct {w : World} {a b : RIns} (hb : a.bare = b.bare) (ha : Reads w w.heap.size 1 a.aA (a.args.length + 12) (ints (a.args ++ mkL 12))) (hc : a.args.length + 12 ≤ a.aC) (hr : Reads w w.heap.size 1 b.aA b.args.length (ints b.args)) (hlen : a.args.length < 2 ^ 40) : Ct Tryz.prog 158 #[a.val, b.val] w (Is (.bool true)) := by
  have hargs : b.args = a.args := (congrArg RIns.args hb : a.bare.args = b.bare.args).symm
  rw [hargs] at hr
  have hS : decide (a.bare = b.bare) = true := decide_eq_true hb
  have hv : b.val = .agg #[.int .i64 b.op, .int .i64 b.dst, .int .i64 b.a, .int .i64 b.b, .int .i64 b.imm, .int .i64 b.callee, .slice b.aA a.args.length b.aC, .int .i64 b.many] := by
    rw [← hargs]; rfl
  refine Ct.mk Tryz.func158 rfl rfl ?_
  refine Cd.seq ?_
  refine Cd.region ?_
  refine Ol.x bxg ?_
  rintro _ _ ⟨g2, rfl, rfl⟩
  refine Ol.x bxg ?_
  rintro _ _ ⟨g3, rfl, rfl⟩
  refine Ol.p asb ?_
  refine Ol.nil ?_
  refine Cd.seq ?_
  refine Cd.region ?_
  refine Ol.p (ldw (cs := a.cells.toArray) ag_api_Ins (i := 1) rfl rfl) ?_
  refine Ol.p (ldw (cs := b.cells.toArray) ag_api_Ins (i := 0) rfl rfl) ?_
  refine Ol.s (cl (v := .bool true) en_kit_SameIns (fun M w' hh => hS ▸ kit_SameIns_ct ((ha.lentI).now hh) (hargs ▸ hr.now hh) (by omega) (by rw [hargs]; omega))) ?_
  refine Ol.p mvb ?_
  refine Ol.gp rfl (fdl fd_api_Ins_6) ?_
  refine Ol.gp rfl (ld (v := .slice a.aA a.args.length a.aC) one_L_int (Rd.blk (i := 1) rfl rfl)) ?_
  refine Ol.gp rfl (fdl fd_api_Ins_6) ?_
  refine Ol.gp rfl (ld (v := .slice b.aA a.args.length b.aC) one_L_int (Rd.blk (i := 0) rfl (show b.cells.toArray[0 + 6]? = some (.slice b.aA a.args.length b.aC) from by rw [← hargs]; rfl))) ?_
  refine Ol.gs rfl (cl (v := .bool true) en_kit_KeptInts (fun M w' hh => kit_KeptInts_ct (l := a.args) (ha.now hh) hc (hr.now hh) hlen)) ?_
  refine Ol.p (pkTb rfl) ?_
  refine Ol.p asb ?_
  refine Ol.nil ?_
  exact Cd.ret ⟨.bool true, ret1 rfl rfl, [], Keep.nil, rfl, rfl⟩
end
section
set_option maxHeartbeats 2000000 in
theorem kit_KeptRow_ct {w : World} {A B : Option Addr} {c d : Nat} {l' l : List RIns} (hb : l'.map RIns.bare = l.map RIns.bare) (hro : Reads w w.heap.size 8 A (l'.length + 12) ((l' ++ mkIL 12).flatMap RIns.cells)) (hc : l'.length + 12 ≤ c) (hra : ∀ i ∈ l', Reads w w.heap.size 1 i.aA (i.args.length + 12) (ints (i.args ++ mkL 12))) (hac : ∀ i ∈ l', i.args.length + 12 ≤ i.aC) (hl : Reads w w.heap.size 8 B l.length (l.flatMap RIns.cells)) (hla : ∀ i ∈ l, Reads w w.heap.size 1 i.aA i.args.length (ints i.args)) (hlen : l.length < 2 ^ 36) (hal : ∀ i ∈ l, i.args.length < 2 ^ 40) : Ct Tryz.prog 134 #[.slice A l'.length c, .slice B l.length d] w (Is (.bool true)) := by
  have hll : l'.length = l.length := by
    have := congrArg List.length hb
    simpa using this
  rw [hll] at hro hc
  refine Ct.mk Tryz.func134 rfl rfl ?_
  refine Cd.seq ?_
  refine Cd.region ?_
  refine Ol.p asb ?_
  refine Ol.nil ?_
  refine Cd.seq ?_
  refine Cd.seq ?_
  refine Cd.region ?_
  refine Ol.p mvs ?_
  refine Ol.p (lens sl_L_api_Ins) ?_
  refine Ol.p mvs ?_
  refine Ol.p (lens sl_L_api_Ins) ?_
  refine Ol.p nei ?_
  refine Ol.nil ?_
  refine Cd.cond rfl (fun h => ?_) (fun _ => ?_)
  · exfalso
    have h : (!decide ((l'.length : Int) = (l.length : Int))) = true := h
    rw [decide_eq_true (by omega)] at h
    cases h
  refine Cd.skip ?_
  refine Cd.seq ?_
  refine Cd.region ?_
  refine Ol.p mvs ?_
  refine Ol.p mvs ?_
  refine Ol.p (lens sl_L_api_Ins) ?_
  refine Ol.p addi ?_
  refine Ol.p (slh (A := A) (c := c) (h := l.length + 12) sl_L_api_Ins (by omega) (hy := congrArg (Value.int .i64) (show (l.length : Int) + 12 = ((l.length + 12 : Nat) : Int) by omega))) ?_
  refine Ol.p ass ?_
  refine Ol.nil ?_
  refine Cd.seq ?_
  refine Cd.seq ?_
  refine Cd.region ?_
  refine Ol.p asi ?_
  refine Ol.nil ?_
  refine Cd.block ?_
  refine Cd.loop (fun m σ L => ∃ k, m = l.length + 12 - k ∧ k ≤ l.length + 12 ∧ Has σ [(1, .slice B l.length d), (5, .slice A (l.length + 12) c), (6, .int .i64 k)] ∧ [] = L) (n := l.length + 12) ⟨0, rfl, Nat.zero_le _, ⟨rfl, rfl, rfl, trivial⟩, rfl⟩ ?_
  rintro _ σ L ⟨k, rfl, hk, hs, rfl⟩
  refine Cd.has hs ?_
  clear hs
  refine Cd.seq ?_
  refine Cd.seq ?_
  refine Cd.region ?_
  refine Ol.p mvi ?_
  refine Ol.p mvs ?_
  refine Ol.p (lens sl_L_api_Ins) ?_
  refine Ol.p lsi ?_
  refine Ol.nil ?_
  refine Cd.cond rfl (fun h => ?_) (fun h => ?_)
  · have hlt : k < l.length + 12 := by
      have h : decide ((k : Int) < ((l.length + 12 : Nat) : Int)) = true := h
      have := of_decide_eq_true h
      omega
    refine Cd.skip ?_
    refine Cd.seq ?_
    refine Cd.block ?_
    refine Cd.mid (fun σ' L' => Has σ' [(1, .slice B l.length d), (5, .slice A (l.length + 12) c), (6, .int .i64 k), (57, .bool false)] ∧ [] = L') ?_ ?_
    · cases q4 : decide ((k : Int) < (l.length : Int)) with
      | true =>
        have hkl : k < l.length := by have := of_decide_eq_true q4; omega
        have q20 : decide ((l.length : Int) ≤ (k : Int)) = false := decide_eq_false (by omega)
        obtain ⟨x, hx⟩ : ∃ x, l'[k]? = some x := ⟨_, List.getElem?_eq_getElem (by omega)⟩
        obtain ⟨y, hy⟩ : ∃ y, l[k]? = some y := ⟨_, List.getElem?_eq_getElem hkl⟩
        have hxm := List.mem_of_getElem? hx
        have hym := List.mem_of_getElem? hy
        have hxy : x.bare = y.bare := by
          have := congrArg (fun z : List RIns => z[k]?) hb
          simp only [List.getElem?_map, hx, hy, Option.map_some] at this
          exact Option.some.inj this
        have hxl : x.args.length < 2 ^ 40 := by
          have e : x.args = y.args := (congrArg RIns.args hxy : x.bare.args = y.bare.args)
          rw [e]; exact hal y hym
        refine Cd.draw mixed 35 (exIs (fun opNo => match opNo with | 13 => some (.bool true) | _ => none)) (fun _ => []) (by kernel_rfl) exIs_in (fun u hu => ?_)
        refine Wk.p mvi ?_
        refine Wk.p mvs ?_
        refine Wk.p (lens sl_L_api_Ins) ?_
        refine Wk.p lsi ?_
        refine Wk.p mvb ?_
        refine Wk.gp q4 mvs ?_
        refine Wk.gp q4 mvi ?_
        refine Wk.gp q4 (ixn (ix := k) sl_L_api_Ins (Som.slc hro (by omega))) ?_
        refine Wk.gp q4 (lds (es := x.cells) ag_api_Ins hro x.len (fun q u hu => ins_cell (mk_old hx) hu)) ?_
        refine Wk.gp q4 mvs ?_
        refine Wk.gp q4 mvi ?_
        refine Wk.gp q4 (ixn (ix := k) sl_L_api_Ins (Som.slc hl (by omega))) ?_
        refine Wk.gp q4 (lds (es := y.cells) ag_api_Ins hl y.len (fun q u hu => ins_cell hy hu)) ?_
        refine Wk.gdk hu q4 (sp_call (vs := [x.val, y.val]) en_kit_KeptIns (fun M w' hh => kit_KeptIns_ct hxy ((hra x hxm).now hh) (hac x hxm) ((hla y hym).now hh) hxl)) ?_
        refine Wk.gp q4 noti ?_
        refine Wk.p (pkTb q4) ?_
        refine Wk.p mvb ?_
        refine Wk.gp rfl mvi ?_
        refine Wk.gp rfl mvs ?_
        refine Wk.gp rfl (lens sl_L_api_Ins) ?_
        refine Wk.gp rfl gei ?_
        refine Wk.gp rfl mvb ?_
        refine Wk.gn q20 ?_
        refine Wk.gn q20 ?_
        refine Wk.gn q20 ?_
        refine Wk.gn q20 ?_
        refine Wk.gn q20 ?_
        refine Wk.gn q20 ?_
        refine Wk.gn q20 ?_
        refine Wk.gn q20 ?_
        refine Wk.gn q20 ?_
        refine Wk.gn q20 ?_
        refine Wk.gn q20 ?_
        refine Wk.gp rfl (pkFb q20) ?_
        refine Wk.p (pkFb rfl) ?_
        refine Wk.nil ?_
        rw [needs_exIs hu rfl]
        refine Ol.nil ?_
        exact ⟨⟨rfl, rfl, rfl, rfl, trivial⟩, rfl⟩
      | false =>
        have hkl : l.length ≤ k := by have := of_decide_eq_false q4; omega
        have q20 : decide ((l.length : Int) ≤ (k : Int)) = true := decide_eq_true (by omega)
        obtain ⟨j, hj⟩ : ∃ j, k = l.length + j := ⟨k - l.length, by omega⟩
        have hjv : ((k : Int) - (l.length : Int)) = (j : Int) := by omega
        have hz := mk_at (l := l') (F := MI 1) (j := j) (by omega)
        rw [hll, ← hj] at hz
        have hmk : ∀ w', Ct Tryz.prog 140 #[.int .i64 1, .int .i64 ((k : Int) - (l.length : Int))] w' (Is (MI 1 j).val) := fun w' => by
          rw [hjv]
          exact kit_markIns_ct (k := 1) (by decide) (by omega)
        have hSM : decide ((MI 1 j).bare = (MI 1 j).bare) = true := by simp
        have hsm : ∀ w', Ct Tryz.prog 141 #[(MI 1 j).val, (MI 1 j).val] w' (Is (.bool true)) := fun w' => hSM ▸ kit_SameIns_ct reads_none_ reads_none_ (by simp [MI]) (by simp [MI])
        refine Cd.draw mixed 35 (exIs (fun opNo => match opNo with | 30 => some ((MI 1 j).val) | 31 => some (.bool true) | _ => none)) (fun _ => []) (by kernel_rfl) exIs_in (fun u hu => ?_)
        refine Wk.p mvi ?_
        refine Wk.p mvs ?_
        refine Wk.p (lens sl_L_api_Ins) ?_
        refine Wk.p lsi ?_
        refine Wk.p mvb ?_
        refine Wk.gn q4 ?_
        refine Wk.gn q4 ?_
        refine Wk.gn q4 ?_
        refine Wk.gn q4 ?_
        refine Wk.gn q4 ?_
        refine Wk.gn q4 ?_
        refine Wk.gn q4 ?_
        refine Wk.gn q4 ?_
        refine Wk.gn q4 ?_
        refine Wk.gn q4 ?_
        refine Wk.p (pkFb q4) ?_
        refine Wk.p mvb ?_
        refine Wk.gp rfl mvi ?_
        refine Wk.gp rfl mvs ?_
        refine Wk.gp rfl (lens sl_L_api_Ins) ?_
        refine Wk.gp rfl gei ?_
        refine Wk.gp rfl mvb ?_
        refine Wk.gp q20 mvs ?_
        refine Wk.gp q20 mvi ?_
        refine Wk.gp q20 (ixn (ix := k) sl_L_api_Ins (Som.slc hro (by omega))) ?_
        refine Wk.gp q20 (lds (es := (MI 1 j).cells) ag_api_Ins hro (MI 1 j).len (fun q u hu => ins_cell (l := l' ++ mkIL 12) hz hu)) ?_
        refine Wk.gp q20 mvi ?_
        refine Wk.gp q20 mvs ?_
        refine Wk.gp q20 (lens sl_L_api_Ins) ?_
        refine Wk.gp q20 subi ?_
        refine Wk.gdk hu q20 (sp_call (vs := [.int .i64 1, .int .i64 ((k : Int) - (l.length : Int))]) en_kit_markIns (fun M w' hh => hmk w')) ?_
        refine Wk.gdk hu q20 (sp_call (vs := [(MI 1 j).val, (MI 1 j).val]) en_kit_SameIns (fun M w' hh => hsm w')) ?_
        refine Wk.gp q20 noti ?_
        refine Wk.gp rfl (pkTb q20) ?_
        refine Wk.p (pkFb rfl) ?_
        refine Wk.nil ?_
        rw [needs_exIs hu rfl]
        refine Ol.nil ?_
        exact ⟨⟨rfl, rfl, rfl, rfl, trivial⟩, rfl⟩
    rintro σ' _ ⟨hs', rfl⟩
    refine Cd.has hs' ?_
    clear hs'
    refine Cd.cond rfl (fun h => by cases h) (fun _ => ?_)
    refine Cd.skip ?_
    refine Cd.region ?_
    refine Ol.p mvi ?_
    refine Ol.p addi ?_
    refine Ol.p asi ?_
    refine Ol.nil ?_
    exact ⟨l.length + 12 - (k + 1), by omega, k + 1, rfl, by omega, ⟨rfl, rfl, rfl, trivial⟩, rfl⟩
  refine Cd.exit (id := 0) ?_
  refine Cd.seq ?_
  refine Cd.region ?_
  refine Ol.p asb ?_
  refine Ol.nil ?_
  exact Cd.ret ⟨.bool true, ret1 rfl rfl, [], Keep.nil, rfl, rfl⟩
end
section
theorem kit_KeptBlock_ct {w : World} {a b : RBlk} (hb : a.bare = b.bare) (ha : BlkL w w.heap.size a) (hr : BlkR w w.heap.size b) (hlen : b.ins.length < 2 ^ 36) (hal : ∀ i ∈ b.ins, i.args.length < 2 ^ 40) : Ct Tryz.prog 97 #[a.val, b.val] w (Is (.bool true)) := by
  have hins : a.ins.map RIns.bare = b.ins.map RIns.bare := (congrArg RBlk.ins hb : a.bare.ins = b.bare.ins)
  have hll : a.ins.length = b.ins.length := by
    have := congrArg List.length hins
    simpa using this
  have hS : decide (a.bare = b.bare) = true := decide_eq_true hb
  have haa : ∀ i ∈ a.ins, i.args.length < 2 ^ 40 := fun i hi => by
    have : i.bare ∈ b.ins.map RIns.bare := hins ▸ List.mem_map_of_mem hi
    obtain ⟨j, hj, ej⟩ := List.mem_map.1 this
    have e : j.args = i.args := (congrArg RIns.args ej : j.bare.args = i.bare.args)
    rw [← e]; exact hal j hj
  have har : BlkR w w.heap.size a := ⟨ha.ins.lentN, fun i hi => (ha.args i hi).lentI, fun i hi => by have := haa i hi; omega, by omega⟩
  refine Ct.mk Tryz.func97 rfl rfl ?_
  refine Cd.seq ?_
  refine Cd.region ?_
  refine Ol.x bxg ?_
  rintro _ _ ⟨g2, rfl, rfl⟩
  refine Ol.x bxg ?_
  rintro _ _ ⟨g3, rfl, rfl⟩
  refine Ol.p asb ?_
  refine Ol.nil ?_
  refine Cd.seq ?_
  refine Cd.region ?_
  refine Ol.p (ldw (cs := a.cells.toArray) ag_api_Block (i := 1) rfl rfl) ?_
  refine Ol.p (ldw (cs := b.cells.toArray) ag_api_Block (i := 0) rfl rfl) ?_
  refine Ol.s (cl (v := .bool true) en_kit_SameBlock (fun M w' hh => hS ▸ kit_SameBlock_ct (har.now hh) (hr.now hh))) ?_
  refine Ol.p mvb ?_
  refine Ol.gp rfl (fdl fd_api_Block_0) ?_
  refine Ol.gp rfl (ld (v := .slice a.iA a.ins.length a.iC) one_L_api_Ins (Rd.blk (i := 1) rfl rfl)) ?_
  refine Ol.gp rfl (fdl fd_api_Block_0) ?_
  refine Ol.gp rfl (ld (v := .slice b.iA b.ins.length b.iC) one_L_api_Ins (Rd.blk (i := 0) rfl rfl)) ?_
  refine Ol.gs rfl (cl (v := .bool true) en_kit_KeptRow (fun M w' hh => kit_KeptRow_ct hins ((ha.now hh).ins) ha.ic (ha.now hh).args ha.ac ((hr.now hh).ins) ((hr.now hh).args) hlen hal)) ?_
  refine Ol.p (pkTb rfl) ?_
  refine Ol.p asb ?_
  refine Ol.nil ?_
  exact Cd.ret ⟨.bool true, ret1 rfl rfl, [], Keep.nil, rfl, rfl⟩
end
section
set_option maxHeartbeats 2000000 in
theorem kit_KeptBlocks_ct {w : World} {A B : Option Addr} {c d : Nat} {l' l : List RBlk} (hb : l'.map RBlk.bare = l.map RBlk.bare) (hro : Reads w w.heap.size 5 A (l'.length + 12) ((l' ++ mkBL 12).flatMap RBlk.cells)) (hc : l'.length + 12 ≤ c) (hra : ∀ x ∈ l', BlkL w w.heap.size x) (hl : Reads w w.heap.size 5 B l.length (l.flatMap RBlk.cells)) (hla : ∀ x ∈ l, BlkR w w.heap.size x) (hlen : l.length < 2 ^ 36) (hil : ∀ x ∈ l, x.ins.length < 2 ^ 36) (hal : ∀ x ∈ l, ∀ i ∈ x.ins, i.args.length < 2 ^ 40) : Ct Tryz.prog 60 #[.slice A l'.length c, .slice B l.length d] w (Is (.bool true)) := by
  have hll : l'.length = l.length := by
    have := congrArg List.length hb
    simpa using this
  rw [hll] at hro hc
  refine Ct.mk Tryz.func60 rfl rfl ?_
  refine Cd.seq ?_
  refine Cd.region ?_
  refine Ol.p asb ?_
  refine Ol.nil ?_
  refine Cd.seq ?_
  refine Cd.seq ?_
  refine Cd.region ?_
  refine Ol.p mvs ?_
  refine Ol.p (lens sl_L_api_Block) ?_
  refine Ol.p mvs ?_
  refine Ol.p (lens sl_L_api_Block) ?_
  refine Ol.p nei ?_
  refine Ol.nil ?_
  refine Cd.cond rfl (fun h => ?_) (fun _ => ?_)
  · exfalso
    have h : (!decide ((l'.length : Int) = (l.length : Int))) = true := h
    rw [decide_eq_true (by omega)] at h
    cases h
  refine Cd.skip ?_
  refine Cd.seq ?_
  refine Cd.region ?_
  refine Ol.p mvs ?_
  refine Ol.p mvs ?_
  refine Ol.p (lens sl_L_api_Block) ?_
  refine Ol.p addi ?_
  refine Ol.p (slh (A := A) (c := c) (h := l.length + 12) sl_L_api_Block (by omega) (hy := congrArg (Value.int .i64) (show (l.length : Int) + 12 = ((l.length + 12 : Nat) : Int) by omega))) ?_
  refine Ol.p ass ?_
  refine Ol.nil ?_
  refine Cd.seq ?_
  refine Cd.seq ?_
  refine Cd.region ?_
  refine Ol.p asi ?_
  refine Ol.nil ?_
  refine Cd.block ?_
  refine Cd.loop (fun m σ L => ∃ k, m = l.length + 12 - k ∧ k ≤ l.length + 12 ∧ Has σ [(1, .slice B l.length d), (5, .slice A (l.length + 12) c), (6, .int .i64 k)] ∧ [] = L) (n := l.length + 12) ⟨0, rfl, Nat.zero_le _, ⟨rfl, rfl, rfl, trivial⟩, rfl⟩ ?_
  rintro _ σ L ⟨k, rfl, hk, hs, rfl⟩
  refine Cd.has hs ?_
  clear hs
  refine Cd.seq ?_
  refine Cd.seq ?_
  refine Cd.region ?_
  refine Ol.p mvi ?_
  refine Ol.p mvs ?_
  refine Ol.p (lens sl_L_api_Block) ?_
  refine Ol.p lsi ?_
  refine Ol.nil ?_
  refine Cd.cond rfl (fun h => ?_) (fun h => ?_)
  · have hlt : k < l.length + 12 := by
      have h : decide ((k : Int) < ((l.length + 12 : Nat) : Int)) = true := h
      have := of_decide_eq_true h
      omega
    refine Cd.skip ?_
    refine Cd.seq ?_
    refine Cd.block ?_
    refine Cd.mid (fun σ' L' => Has σ' [(1, .slice B l.length d), (5, .slice A (l.length + 12) c), (6, .int .i64 k), (57, .bool false)] ∧ [] = L') ?_ ?_
    · cases q4 : decide ((k : Int) < (l.length : Int)) with
      | true =>
        have hkl : k < l.length := by have := of_decide_eq_true q4; omega
        have q20 : decide ((l.length : Int) ≤ (k : Int)) = false := decide_eq_false (by omega)
        obtain ⟨x, hx⟩ : ∃ x, l'[k]? = some x := ⟨_, List.getElem?_eq_getElem (by omega)⟩
        obtain ⟨y, hy⟩ : ∃ y, l[k]? = some y := ⟨_, List.getElem?_eq_getElem hkl⟩
        have hxm := List.mem_of_getElem? hx
        have hym := List.mem_of_getElem? hy
        have hxy : x.bare = y.bare := by
          have := congrArg (fun z : List RBlk => z[k]?) hb
          simp only [List.getElem?_map, hx, hy, Option.map_some] at this
          exact Option.some.inj this
        refine Cd.draw mixed 35 (exIs (fun opNo => match opNo with | 13 => some (.bool true) | _ => none)) (fun _ => []) (by kernel_rfl) exIs_in (fun u hu => ?_)
        refine Wk.p mvi ?_
        refine Wk.p mvs ?_
        refine Wk.p (lens sl_L_api_Block) ?_
        refine Wk.p lsi ?_
        refine Wk.p mvb ?_
        refine Wk.gp q4 mvs ?_
        refine Wk.gp q4 mvi ?_
        refine Wk.gp q4 (ixn (ix := k) sl_L_api_Block (Som.slc hro (by omega))) ?_
        refine Wk.gp q4 (lds (es := x.cells) ag_api_Block hro x.len (fun q u hu => blk_cell (mk_old hx) hu)) ?_
        refine Wk.gp q4 mvs ?_
        refine Wk.gp q4 mvi ?_
        refine Wk.gp q4 (ixn (ix := k) sl_L_api_Block (Som.slc hl (by omega))) ?_
        refine Wk.gp q4 (lds (es := y.cells) ag_api_Block hl y.len (fun q u hu => blk_cell hy hu)) ?_
        refine Wk.gdk hu q4 (sp_call (vs := [x.val, y.val]) en_kit_KeptBlock (fun M w' hh => kit_KeptBlock_ct hxy ((hra x hxm).now hh) ((hla y hym).now hh) (hil y hym) (hal y hym))) ?_
        refine Wk.gp q4 noti ?_
        refine Wk.p (pkTb q4) ?_
        refine Wk.p mvb ?_
        refine Wk.gp rfl mvi ?_
        refine Wk.gp rfl mvs ?_
        refine Wk.gp rfl (lens sl_L_api_Block) ?_
        refine Wk.gp rfl gei ?_
        refine Wk.gp rfl mvb ?_
        refine Wk.gn q20 ?_
        refine Wk.gn q20 ?_
        refine Wk.gn q20 ?_
        refine Wk.gn q20 ?_
        refine Wk.gn q20 ?_
        refine Wk.gn q20 ?_
        refine Wk.gn q20 ?_
        refine Wk.gn q20 ?_
        refine Wk.gn q20 ?_
        refine Wk.gn q20 ?_
        refine Wk.gn q20 ?_
        refine Wk.gp rfl (pkFb q20) ?_
        refine Wk.p (pkFb rfl) ?_
        refine Wk.nil ?_
        rw [needs_exIs hu rfl]
        refine Ol.nil ?_
        exact ⟨⟨rfl, rfl, rfl, rfl, trivial⟩, rfl⟩
      | false =>
        have hkl : l.length ≤ k := by have := of_decide_eq_false q4; omega
        have q20 : decide ((l.length : Int) ≤ (k : Int)) = true := decide_eq_true (by omega)
        obtain ⟨j, hj⟩ : ∃ j, k = l.length + j := ⟨k - l.length, by omega⟩
        have hjv : ((k : Int) - (l.length : Int)) = (j : Int) := by omega
        have hz := mk_at (l := l') (F := MB 1) (j := j) (by omega)
        rw [hll, ← hj] at hz
        have hmk : ∀ w', Ct Tryz.prog 93 #[.int .i64 1, .int .i64 ((k : Int) - (l.length : Int))] w' (Is (MB 1 j).val) := fun w' => by
          rw [hjv]
          exact kit_markBlock_ct (k := 1) (by decide) (by omega)
        have hSM : decide ((MB 1 j).bare = (MB 1 j).bare) = true := by simp
        have hMB : ∀ w', BlkR w' w'.heap.size (MB 1 j) := fun w' => ⟨reads_none_, (fun i hi => by simp [MB] at hi), (fun i hi => by simp [MB] at hi), by simp [MB]⟩
        have hsm : ∀ w', Ct Tryz.prog 98 #[(MB 1 j).val, (MB 1 j).val] w' (Is (.bool true)) := fun w' => hSM ▸ kit_SameBlock_ct (hMB w') (hMB w')
        refine Cd.draw mixed 35 (exIs (fun opNo => match opNo with | 30 => some ((MB 1 j).val) | 31 => some (.bool true) | _ => none)) (fun _ => []) (by kernel_rfl) exIs_in (fun u hu => ?_)
        refine Wk.p mvi ?_
        refine Wk.p mvs ?_
        refine Wk.p (lens sl_L_api_Block) ?_
        refine Wk.p lsi ?_
        refine Wk.p mvb ?_
        refine Wk.gn q4 ?_
        refine Wk.gn q4 ?_
        refine Wk.gn q4 ?_
        refine Wk.gn q4 ?_
        refine Wk.gn q4 ?_
        refine Wk.gn q4 ?_
        refine Wk.gn q4 ?_
        refine Wk.gn q4 ?_
        refine Wk.gn q4 ?_
        refine Wk.gn q4 ?_
        refine Wk.p (pkFb q4) ?_
        refine Wk.p mvb ?_
        refine Wk.gp rfl mvi ?_
        refine Wk.gp rfl mvs ?_
        refine Wk.gp rfl (lens sl_L_api_Block) ?_
        refine Wk.gp rfl gei ?_
        refine Wk.gp rfl mvb ?_
        refine Wk.gp q20 mvs ?_
        refine Wk.gp q20 mvi ?_
        refine Wk.gp q20 (ixn (ix := k) sl_L_api_Block (Som.slc hro (by omega))) ?_
        refine Wk.gp q20 (lds (es := (MB 1 j).cells) ag_api_Block hro (MB 1 j).len (fun q u hu => blk_cell (l := l' ++ mkBL 12) hz hu)) ?_
        refine Wk.gp q20 mvi ?_
        refine Wk.gp q20 mvs ?_
        refine Wk.gp q20 (lens sl_L_api_Block) ?_
        refine Wk.gp q20 subi ?_
        refine Wk.gdk hu q20 (sp_call (vs := [.int .i64 1, .int .i64 ((k : Int) - (l.length : Int))]) en_kit_markBlock (fun M w' hh => hmk w')) ?_
        refine Wk.gdk hu q20 (sp_call (vs := [(MB 1 j).val, (MB 1 j).val]) en_kit_SameBlock (fun M w' hh => hsm w')) ?_
        refine Wk.gp q20 noti ?_
        refine Wk.gp rfl (pkTb q20) ?_
        refine Wk.p (pkFb rfl) ?_
        refine Wk.nil ?_
        rw [needs_exIs hu rfl]
        refine Ol.nil ?_
        exact ⟨⟨rfl, rfl, rfl, rfl, trivial⟩, rfl⟩
    rintro σ' _ ⟨hs', rfl⟩
    refine Cd.has hs' ?_
    clear hs'
    refine Cd.cond rfl (fun h => by cases h) (fun _ => ?_)
    refine Cd.skip ?_
    refine Cd.region ?_
    refine Ol.p mvi ?_
    refine Ol.p addi ?_
    refine Ol.p asi ?_
    refine Ol.nil ?_
    exact ⟨l.length + 12 - (k + 1), by omega, k + 1, rfl, by omega, ⟨rfl, rfl, rfl, trivial⟩, rfl⟩
  refine Cd.exit (id := 0) ?_
  refine Cd.seq ?_
  refine Cd.region ?_
  refine Ol.p asb ?_
  refine Ol.nil ?_
  exact Cd.ret ⟨.bool true, ret1 rfl rfl, [], Keep.nil, rfl, rfl⟩
end
section
theorem kit_KeptFunc_ct {w : World} {g f : RFun} (hb : g.bare = f.bare) (hg : LentAt w w.heap.size g) (hf : FunAt w w.heap.size f) (hgf : FitC g) (hff : FitC f) (hp : f.params.length < 2 ^ 40) (hl : BlksIn w w.heap.size f.bA f.blocks) (hal : ∀ b ∈ f.blocks, ∀ i ∈ b.ins, i.args.length < 2 ^ 40) : Ct Tryz.prog 20 #[g.val, f.val] w (Is (.bool true)) := by
  have hpar : g.params = f.params := (congrArg RFun.params hb : g.bare.params = f.bare.params)
  have hblk : g.blocks.map RBlk.bare = f.blocks.map RBlk.bare := (congrArg RFun.blocks hb : g.bare.blocks = f.bare.blocks)
  have hS : decide (g.bare = f.bare) = true := decide_eq_true hb
  have hgp := hg.params
  have hgc := hg.pc
  rw [hpar] at hgp hgc
  have hfr : ∀ x ∈ f.blocks, BlkR w w.heap.size x := fun x hx => ⟨hf.ins x hx, hf.args x hx, fun i hi => by have := hal x hx i hi; omega, by have := hl.ilen x hx; omega⟩
  refine Ct.mk Tryz.func20 rfl rfl ?_
  refine Cd.seq ?_
  refine Cd.region ?_
  refine Ol.x bxg ?_
  rintro _ _ ⟨g2, rfl, rfl⟩
  refine Ol.x bxg ?_
  rintro _ _ ⟨g3, rfl, rfl⟩
  refine Ol.p asb ?_
  refine Ol.nil ?_
  refine Cd.seq ?_
  refine Cd.region ?_
  refine Ol.p (ldw (cs := g.cells.toArray) ag_api_Func (i := 1) rfl rfl) ?_
  refine Ol.p (ldw (cs := f.cells.toArray) ag_api_Func (i := 0) rfl rfl) ?_
  refine Ol.s (cl (v := .bool true) en_kit_SameFunc (fun M w' hh => hS ▸ kit_SameFunc_ct (hg.fun_.now hh) (hf.now hh) hgf hff)) ?_
  refine Ol.p mvb ?_
  refine Ol.gp rfl (fdl fd_api_Func_0) ?_
  refine Ol.gp rfl (ld (v := .slice g.pA f.params.length g.pC) one_L_int (Rd.blk (i := 1) rfl (show g.cells.toArray[0 + 0]? = some (.slice g.pA f.params.length g.pC) from by rw [← hpar]; rfl))) ?_
  refine Ol.gp rfl (fdl fd_api_Func_0) ?_
  refine Ol.gp rfl (ld (v := .slice f.pA f.params.length f.pC) one_L_int (Rd.blk (i := 0) rfl rfl)) ?_
  refine Ol.gs rfl (cl (v := .bool true) en_kit_KeptInts (fun M w' hh => kit_KeptInts_ct (l := f.params) (hgp.now hh) hgc (hf.params.now hh) hp)) ?_
  refine Ol.p (pkTb rfl) ?_
  refine Ol.p mvb ?_
  refine Ol.gp rfl (fdl fd_api_Func_1) ?_
  refine Ol.gp rfl (ld (v := .slice g.bA g.blocks.length g.bC) one_L_api_Block (Rd.blk (i := 1) rfl rfl)) ?_
  refine Ol.gp rfl (fdl fd_api_Func_1) ?_
  refine Ol.gp rfl (ld (v := .slice f.bA f.blocks.length f.bC) one_L_api_Block (Rd.blk (i := 0) rfl rfl)) ?_
  refine Ol.gs rfl (cl (v := .bool true) en_kit_KeptBlocks (fun M w' hh => kit_KeptBlocks_ct hblk (hg.blocks.now hh) hg.bc (fun x hx => (hg.blk x hx).now hh) (hf.blocks.now hh) (fun x hx => (hfr x hx).now hh) hl.len hl.ilen hal)) ?_
  refine Ol.p (pkTb rfl) ?_
  refine Ol.p asb ?_
  refine Ol.nil ?_
  exact Cd.ret ⟨.bool true, ret1 rfl rfl, [], Keep.nil, rfl, rfl⟩
end
end Go.Proofs.YtcojedoejpcolaaGreat

/- Lists that lie apart: what is marked, what has grown. -/
namespace Go.Proofs.YtcojedoejpcolaaGreat
set_option linter.unusedVariables false
open Go Go.RowKit

def mkV (k j : Nat) : Value := .int .i64 (mkN k j)
def mkVs (k n : Nat) : List Value := (List.range n).map (mkV k)
theorem mkVs_len (k n : Nat) : (mkVs k n).length = n := by simp [mkVs]
theorem mkVs_get {k n j : Nat} (h : j < n) : (mkVs k n)[j]? = some (mkV k j) := by simp [mkVs, h]
theorem mkVs_of {k n j : Nat} {u : Value} (h : (mkVs k n)[j]? = some u) : j < n ∧ u = mkV k j := by
  have hj := (List.getElem?_eq_some_iff.1 h).1
  rw [mkVs_len] at hj
  rw [mkVs_get hj] at h
  exact ⟨hj, (Option.some.inj h).symm⟩
theorem mkVs_succ (k n : Nat) : mkVs k (n + 1) = mkVs k n ++ [mkV k n] := by simp [mkVs, List.range_succ]
theorem mkVs_one (k n : Nat) : ∀ u ∈ mkVs k n, u.oneCell' = true := fun u hu => by
  simp only [mkVs, List.mem_map] at hu
  obtain ⟨j, _, rfl⟩ := hu
  rfl
/-- A list: where it lies, its length, its row's length, its room. -/
structure Li where
  A : Option Addr
  n : Nat
  m : Nat
  c : Nat
def Li.v (x : Li) : Value := .slice x.A x.n x.c
def hdL (N : Nat) (it : Nat → Li) : List Value := (List.range N).map fun k => (it k).v
theorem hdL_get {N k : Nat} {it : Nat → Li} (h : k < N) : (hdL N it)[k]? = some (.slice (it k).A (it k).n (it k).c) := by simp [hdL, h, Li.v]
theorem hdL_len (N : Nat) (it : Nat → Li) : (hdL N it).length = N := by simp [hdL]
def rowL (x : Li) (xs : List Value) : Res := row (.slice x.A x.m x.c) 3 1 x.m xs
def rowsL (N : Nat) (it : Nat → Li) (X : Nat → List Value) : List Res := (List.range N).map fun k => rowL (it k) (X k)
theorem rowsL_get {N k : Nat} {it : Nat → Li} {X : Nat → List Value} (h : k < N) : (rowsL N it X)[k]? = some (rowL (it k) (X k)) := by simp [rowsL, h]
theorem rowsL_set {N k : Nat} {it : Nat → Li} {X : Nat → List Value} {xs : List Value} : (rowsL N it X).set k (rowL (it k) xs) = rowsL N it (fun q => if q = k then xs else X q) := by
  apply List.ext_getElem?
  intro j
  rw [List.getElem?_set]
  simp only [rowsL, List.getElem?_map, List.length_map, List.length_range]
  by_cases h : k = j
  · subst h
    by_cases hj : k < N
    · simp [hj]
    · simp [hj]
  · have : ¬ j = k := fun e => h e.symm
    simp [h, this]
    by_cases hj : j < N
    · simp [hj, this]
    · simp [hj]
/-- The lists from the k-th on. -/
def restL (N : Nat) (it : Nat → Li) (X : Nat → List Value) (k : Nat) : List Res := (List.range' k (N - k)).map fun q => rowL (it q) (X q)
theorem restL_all {N : Nat} {it : Nat → Li} {X : Nat → List Value} : rowsL N it X = restL N it X 0 := by simp [rowsL, restL, List.range_eq_range']
theorem restL_cons {N k : Nat} {it : Nat → Li} {X : Nat → List Value} (h : k < N) : restL N it X k = rowL (it k) (X k) :: restL N it X (k + 1) := by
  obtain ⟨q, hq⟩ : ∃ q, N - k = q + 1 := ⟨N - k - 1, by omega⟩
  have h2 : N - (k + 1) = q := by omega
  simp only [restL, hq, h2, List.range'_succ, List.map_cons]
theorem restL_end {N : Nat} {it : Nat → Li} {X : Nat → List Value} : restL N it X N = [] := by simp [restL]
theorem Src.rd {w0 : World} {B : Nat} {L : List Res} {A : Option Addr} {m j : Nat} {ys : List Value} {v : Value} (h : Src w0 B L A m 1 ys) (hj : ys[j]? = some v) : Rd w0 B L (ap A j) v := fun M w hh => by
  rcases h.2 M w hh with ⟨rfl, rfl⟩ | ⟨a, rfl, hc⟩
  · have h1 := h.1
    have h2 := (List.getElem?_eq_some_iff.1 hj).1
    omega
  · exact hc j v hj
theorem Src.som {w0 : World} {B : Nat} {L : List Res} {A : Option Addr} {m : Nat} {ys : List Value} (h : Src w0 B L A m 1 ys) (hm : 0 < m) : Som w0 B L A := fun M w hh => by
  rcases h.2 M w hh with ⟨rfl, rfl⟩ | ⟨a, rfl, hc⟩
  · omega
  · rfl
theorem Src.pre {w0 : World} {B : Nat} {L : List Res} {A : Option Addr} {m n : Nat} {ys zs : List Value} (h : Src w0 B L A m 1 ys) (hl : zs.length = n) (hz : ∀ (j : Nat) (u : Value), zs[j]? = some u → ys[j]? = some u) (hn : A = none → n = 0) : Src w0 B L A n 1 zs := ⟨by omega, fun M w hh => by
  rcases h.2 M w hh with ⟨rfl, rfl⟩ | ⟨a, rfl, hc⟩
  · exact .inl ⟨rfl, hn rfl⟩
  · exact .inr ⟨a, rfl, fun j u hu => hc j u (hz j u hu)⟩⟩
theorem Src.ofblk {w0 : World} {B i g m : Nat} {L : List Res} {cs : Array Value} {e : TypeId} {fz : Nat × Nat} {ys : List Value} (hi : L[i]? = some (blk g (.cells cs e fz))) (hl : ys.length = m) (hy : ∀ (j : Nat) (u : Value), ys[j]? = some u → cs[j]? = some u) : Src w0 B L (some ⟨g, 0, none⟩) m 1 ys := ⟨by omega, fun M w hh => .inr ⟨_, rfl, fun j u hu => by
  rw [add_lit_, Nat.zero_add]
  exact Rd.blk hi (hy j u hu) M w hh⟩⟩
theorem Cd.owns {C : Ctx} {k : Code} {Q : Exit → Env → List Res → Prop} {σ : Env} {L : List Res} {i n c e s : Nat} {A : Option Addr} {xs : List Value} (hi : L[i]? = some (row (.slice A n c) e s n xs)) (h0 : A = none → n = 0 → c = 0 → Cd C k Q σ L) (h1 : ∀ g, A = some ⟨g, 0, none⟩ → n ≤ c → Cd C k Q σ L) : Cd C k Q σ L := fun a w ha hs => by
  have hown : w.ownsRow 0 e s (.slice A n c) n xs := hs.heap.at_ hi
  rcases hown.2 with ⟨hv, hn⟩ | ⟨g, cap, cur, hv, _, _, hnc, _⟩
  · injection hv with e1 e2 e3
    exact h0 e1 hn e3 a w ha hs
  · injection hv with e1 e2 e3
    exact h1 g e1 (by omega) a w ha hs
/-- A list's own block, that holds its marks. -/
def OwnL (k : Nat) (x : Li) (R : List Res) : Prop := (x.A = none ∧ x.n = 0 ∧ x.c = 0) ∨ ∃ (g : Nat) (cs : Array Value) (Z : List Res), x.A = some ⟨g, 0, none⟩ ∧ R = blk g (.cells cs 3) :: Z ∧ x.n ≤ x.c ∧ x.c ≤ cs.size ∧ ∀ j : Nat, j < x.n → cs[j]? = some (mkV k j)
theorem OwnL.src {w0 : World} {B k : Nat} {x : Li} {R : List Res} (h : OwnL k x R) : Src w0 B R x.A x.n 1 (mkVs k x.n) := by
  rcases h with ⟨h1, h2, h3⟩ | ⟨g, cs, Z, h1, rfl, h3, h4, h5⟩
  · rw [h1, h2]
    exact ⟨rfl, fun M w hh => .inl ⟨rfl, rfl⟩⟩
  · rw [h1]
    refine Src.ofblk (i := 0) rfl (mkVs_len _ _) fun j u hu => ?_
    obtain ⟨hj, rfl⟩ := mkVs_of hu
    exact h5 j hj
/-- A list with its marks, and what it has grown to: the first d of it are known. -/
def GrownL (w0 : World) (B k d : Nat) (x : Li) (R : List Res) (v : Value) : Prop := OwnL k x R ∧ ∃ (A : Option Addr) (c : Nat) (ys : List Value), v = .slice A (x.n + 64) c ∧ Src w0 B R A (x.n + 64) 1 ys ∧ ∀ j : Nat, j < d → ys[j]? = some (mkV k j)
/-- The lists ahead of the k-th have grown. -/
def AllL (w0 : World) (B : Nat) (it : Nat → Li) (d : Nat → Nat) (k : Nat) (D : List (List Res)) (hs : List Value) : Prop := D.length = k ∧ ∀ q, q < k → ∃ R v, D[q]? = some R ∧ hs[q]? = some v ∧ GrownL w0 B q (d q) (it q) R v
theorem AllL.add {w0 : World} {B : Nat} {it : Nat → Li} {d : Nat → Nat} {k : Nat} {D : List (List Res)} {hs : List Value} {R : List Res} {v : Value} (h : AllL w0 B it d k D hs) (hk : k < hs.length) (hr : GrownL w0 B k (d k) (it k) R v) : AllL w0 B it d (k + 1) (D ++ [R]) (hs.set k v) := by
  refine ⟨by simp [h.1], fun q hq => ?_⟩
  rcases Nat.lt_or_ge q k with h1 | h1
  · obtain ⟨R', v', e1, e2, e3⟩ := h.2 q h1
    refine ⟨R', v', ?_, ?_, e3⟩
    · rw [List.getElem?_append_left (by have := h.1; omega)]; exact e1
    · rw [List.getElem?_set_ne (by omega)]; exact e2
  · have : q = k := by omega
    subst this
    refine ⟨R, v, ?_, ?_, hr⟩
    · rw [List.getElem?_append_right (by have := h.1; omega)]
      simp [h.1]
    · rw [List.getElem?_set_self hk]
theorem flat_keep {L : List Res} {D : List (List Res)} {R : List Res} {q : Nat} (h : D[q]? = some R) : Keep (L ++ D.flatten) R :=
  Keep.sub ((List.sublist_flatten_of_mem (List.mem_of_getElem? h)).trans (List.sublist_append_right _ _))
theorem AllL.reads {w0 : World} {B : Nat} {it : Nat → Li} {d : Nat → Nat} {k q : Nat} {D : List (List Res)} {hs : List Value} {L : List Res} (h : AllL w0 B it d k D hs) (hq : q < k) : Src w0 B (L ++ D.flatten) (it q).A (it q).n 1 (mkVs q (it q).n) ∧ ∃ (A : Option Addr) (c : Nat) (ys : List Value), hs[q]? = some (.slice A ((it q).n + 64) c) ∧ Src w0 B (L ++ D.flatten) A ((it q).n + 64) 1 ys ∧ ∀ j : Nat, j < d q → ys[j]? = some (mkV q j) := by
  obtain ⟨R, v, e1, e2, e3, A, c, ys, rfl, e5, e6⟩ := h.2 q hq
  exact ⟨e3.src.sub (flat_keep e1), A, c, ys, e2, e5.sub (flat_keep e1), e6⟩
/-- What the k-th list is, while it grows: in its own block, or in a new one, its old block behind it. -/
def GrowsL (k i : Nat) (x : Li) (v : Value) (S : Res) (Z : List Res) : Prop :=
  (∃ (g : Nat) (cs : Array Value), Z = [] ∧ x.A = some ⟨g, 0, none⟩ ∧ v = .slice (some ⟨g, 0, none⟩) (x.n + i) x.c ∧ S = blk g (.cells cs 3) ∧ x.n + i ≤ x.c ∧ x.c ≤ cs.size ∧ ∀ j : Nat, j < x.n + i → cs[j]? = some (mkV k j)) ∨
  (∃ (A : Option Addr) (c : Nat), v = .slice A (x.n + i) c ∧ S = row (.slice A (x.n + i) c) 3 1 (x.n + i) (mkVs k (x.n + i)) ∧ OwnL k x Z)
theorem GrowsL.done {w0 : World} {B k : Nat} {x : Li} {v : Value} {S : Res} {Z : List Res} (h : GrowsL k 64 x v S Z) : GrownL w0 B k (x.n + 64) x (Z ++ [S]) v := by
  rcases h with ⟨g, cs, rfl, h1, h2, rfl, h4, h5, h6⟩ | ⟨A, c, rfl, rfl, h3⟩
  · refine ⟨.inr ⟨g, cs, [], h1, rfl, by omega, h5, fun j hj => h6 j (by omega)⟩, _, _, mkVs k (x.n + 64), h2, Src.ofblk (i := 0) rfl (mkVs_len _ _) fun j u hu => ?_, fun j hj => mkVs_get hj⟩
    obtain ⟨hj, rfl⟩ := mkVs_of hu
    exact h6 j hj
  · have hs : Src w0 B (Z ++ [row (.slice A (x.n + 64) c) 3 1 (x.n + 64) (mkVs k (x.n + 64))]) A (x.n + 64) 1 (mkVs k (x.n + 64)) := Src.row (i := Z.length) (c := c) (e := 3) (by simp) (by rw [mkVs_len]; omega)
    refine ⟨?_, A, c, mkVs k (x.n + 64), rfl, hs, fun j hj => mkVs_get hj⟩
    rcases h3 with h | ⟨g, cs, Z', h1, rfl, h3, h4, h5⟩
    · exact .inl h
    · exact .inr ⟨g, cs, _, h1, rfl, h3, h4, h5⟩
theorem GrowsL.val {k i : Nat} {x : Li} {v : Value} {S : Res} {Z : List Res} (h : GrowsL k i x v S Z) : ∃ A c, v = .slice A (x.n + i) c := by
  rcases h with ⟨g, cs, _, _, h2, _⟩ | ⟨A, c, h2, _⟩
  · exact ⟨_, _, h2⟩
  · exact ⟨_, _, h2⟩
theorem GrownL.val {w0 : World} {B k d : Nat} {x : Li} {R : List Res} {v : Value} (h : GrownL w0 B k d x R v) : ∃ A c, v = .slice A (x.n + 64) c := by
  obtain ⟨_, A, c, _, h1, _⟩ := h
  exact ⟨A, c, h1⟩
theorem Cd.rlen {C : Ctx} {k : Code} {Q : Exit → Env → List Res → Prop} {σ : Env} {L : List Res} {i n e s : Nat} {v : Value} {xs : List Value} (hi : L[i]? = some (row v e s n xs)) (h : xs.length = n * s → Cd C k Q σ L) : Cd C k Q σ L := fun a w ha hs =>
  have hown : w.ownsRow 0 e s v n xs := hs.heap.at_ hi
  h hown.1 a w ha hs
theorem Cd.grow0 {C : Ctx} {c : Code} {Q : Exit → Env → List Res → Prop} {σ : Env} {L : List Res} {k : Nat} {x : Li} {xs : List Value} (hl : xs.length = x.m) (hnm : x.n ≤ x.m) (hm : ∀ j, j < x.n → xs[j]? = some (mkV k j)) (h : ∀ S, GrowsL k 0 x (.slice x.A x.n x.c) S [] → Cd C c Q σ (S :: L)) : Cd C c Q σ (rowL x xs :: L) := by
  refine Cd.owns (i := 0) (A := x.A) (n := x.m) (c := x.c) (xs := xs) (e := 3) (s := 1) rfl (fun h1 h2 h3 => h _ ?_) (fun g h1 h2 => ?_)
  · have h0 : x.n = 0 := by omega
    have hx : xs = [] := List.eq_nil_of_length_eq_zero (by omega)
    refine .inr ⟨none, 0, by rw [h1, h0, h3], ?_, .inl ⟨h1, h0, h3⟩⟩
    rw [rowL, h1, h2, h3, h0, hx]
    rfl
  · rw [rowL, h1]
    refine Cd.unrow fun cs h4 h5 => h _ (.inl ⟨g, cs, rfl, h1, by rw [h1]; rfl, rfl, by omega, by omega, fun j hj => ?_⟩)
    have h6 := hm j (by omega)
    rw [← h5, List.getElem?_take] at h6
    split at h6
    · simpa using h6
    · cases h6
theorem grows_inA {k i g : Nat} {x : Li} {cs : Array Value} {sm G H : Res} {Y L' : List Res} {v : Value} (hA : x.A = some ⟨g, 0, none⟩) (hle : x.n + i ≤ x.c) (hcs : x.c ≤ cs.size) (hm : ∀ j : Nat, j < x.n + i → cs[j]? = some (mkV k j))
    (h : Keepq 1 3 g (x.n + i) 1 x.c cs (mkVs k (x.n + i)) [mkV k (x.n + i)] (sm :: blk g (.cells cs 3) :: G :: H :: ([] ++ Y)) v L') : ∃ S Z, Keep L' (S :: G :: H :: (Z ++ Y)) ∧ GrowsL k (i + 1) x v S Z := by
  rcases h with ⟨cs', h1, rfl, rfl, h2, h3, h4⟩ | ⟨A', c', rfl, rfl⟩
  · refine ⟨blk g (.cells cs' 3), [], .sub (.cons _ (List.Sublist.refl _)), .inl ⟨g, cs', rfl, hA, rfl, rfl, by omega, by omega, fun j hj => ?_⟩⟩
    rcases Nat.lt_or_ge j (x.n + i) with h5 | h5
    · rw [h3 j h5]; exact hm j h5
    · have : j = x.n + i := by omega
      subst this
      exact h4 0 _ rfl
  · refine ⟨row (.slice A' (x.n + i + 1) c') 3 1 (x.n + i + 1) (mkVs k (x.n + i) ++ [mkV k (x.n + i)]), [blk g (.cells cs 3)], keep_count [sm] (fun _ x => by simp only [List.set_cons_succ, List.set_cons_zero, List.count_append, List.count_cons, List.count_nil, List.cons_append, List.nil_append]; omega), .inr ⟨A', c', rfl, by rw [← mkVs_succ]; rfl, .inr ⟨g, cs, [], hA, rfl, by omega, hcs, fun j hj => hm j (by omega)⟩⟩⟩
theorem grows_inB {k i c : Nat} {A : Option Addr} {x : Li} {sm G H : Res} {Z Y L' : List Res} {v : Value} (hZ : OwnL k x Z)
    (h : Grow 1 3 1 (x.n + i + 1) (mkVs k (x.n + i) ++ [mkV k (x.n + i)]) (sm :: row (.slice A (x.n + i) c) 3 1 (x.n + i) (mkVs k (x.n + i)) :: G :: H :: (Z ++ Y)) v L') : ∃ S Z, Keep L' (S :: G :: H :: (Z ++ Y)) ∧ GrowsL k (i + 1) x v S Z := by
  obtain ⟨A', c', rfl, rfl⟩ := h
  exact ⟨row (.slice A' (x.n + i + 1) c') 3 1 (x.n + i + 1) (mkVs k (x.n + i) ++ [mkV k (x.n + i)]), Z, .sub (.cons _ (List.Sublist.refl _)), .inr ⟨A', c', rfl, by rw [← mkVs_succ]; rfl, hZ⟩⟩
theorem grown_A {w0 : World} {B k g : Nat} {x : Li} {cs : Array Value} {sm G H : Res} {Y L' : List Res} {ys : List Value} {v : Value} (hyl : ys.length = 64) (hA : x.A = some ⟨g, 0, none⟩) (hle : x.n ≤ x.c) (hcs : x.c ≤ cs.size) (hm : ∀ j : Nat, j < x.n → cs[j]? = some (mkV k j))
    (h : Keepq 1 3 g x.n 64 x.c cs (mkVs k x.n) ys (sm :: blk g (.cells cs 3) :: G :: H :: Y) v L') : ∃ R, Keep L' (G :: H :: (R ++ Y)) ∧ GrownL w0 B k x.n x R v := by
  rcases h with ⟨cs', h1, rfl, rfl, h2, h3, h4⟩ | ⟨A', c', rfl, rfl⟩
  · have hm' : ∀ j : Nat, j < x.n → cs'[j]? = some (mkV k j) := fun j hj => by rw [h3 j hj]; exact hm j hj
    refine ⟨[blk g (.cells cs' 3)], keep_count [sm] (fun _ x => by simp only [List.set_cons_succ, List.set_cons_zero, List.count_append, List.count_cons, List.count_nil, List.cons_append, List.nil_append]; omega), .inr ⟨g, cs', [], hA, rfl, hle, by omega, hm'⟩, _, _, cs'.toList.take (x.n + 64), rfl, Src.ofblk (i := 0) rfl (by simp; omega) fun j u hu => ?_, fun j hj => ?_⟩
    · rw [List.getElem?_take] at hu
      split at hu
      · simpa using hu
      · cases hu
    · rw [List.getElem?_take, if_pos (by omega)]
      simpa using hm' j hj
  · refine ⟨[blk g (.cells cs 3), row (.slice A' (x.n + 64) c') 3 1 (x.n + 64) (mkVs k x.n ++ ys)], keep_count [sm] (fun _ x => by simp only [List.set_cons_succ, List.set_cons_zero, List.count_append, List.count_cons, List.count_nil, List.cons_append, List.nil_append]; omega), .inr ⟨g, cs, [_], hA, rfl, hle, hcs, hm⟩, A', c', mkVs k x.n ++ ys, rfl, Src.row (i := 1) (c := c') (e := 3) rfl (by simp [mkVs_len, hyl]), fun j hj => ?_⟩
    rw [List.getElem?_append_left (by rw [mkVs_len]; exact hj)]
    exact mkVs_get hj
theorem grown_B {w0 : World} {B k : Nat} {x : Li} {sm G H : Res} {Y L' : List Res} {ys : List Value} {v : Value} (hyl : ys.length = 64) (hA : x.A = none) (hn : x.n = 0) (hc : x.c = 0)
    (h : Grow 1 3 1 (0 + 64) ([] ++ ys) (sm :: row (.slice none 0 0) 3 1 0 [] :: G :: H :: Y) v L') : ∃ R, Keep L' (G :: H :: (R ++ Y)) ∧ GrownL w0 B k x.n x R v := by
  obtain ⟨A', c', rfl, rfl⟩ := h
  refine ⟨[row (.slice A' (0 + 64) c') 3 1 (0 + 64) ([] ++ ys)], keep_count [sm] (fun _ x => by simp only [List.set_cons_succ, List.set_cons_zero, List.count_append, List.count_cons, List.count_nil, List.cons_append, List.nil_append]; omega), .inl ⟨hA, hn, hc⟩, A', c', [] ++ ys, by rw [hn], ?_, fun j hj => by omega⟩
  rw [hn]
  exact Src.row (i := 0) (c := c') (e := 3) rfl (by simp [hyl])
theorem keep_P2 {S G H : Res} {Z rest : List Res} {D : List (List Res)} : Keep (S :: G :: H :: (Z ++ (rest ++ D.flatten))) (G :: H :: (rest ++ (D ++ [Z ++ [S]]).flatten)) := by
  rw [List.flatten_append]
  simp only [List.flatten_cons, List.flatten_nil, List.append_nil]
  exact keep_count [] (fun _ x => by simp only [List.set_cons_succ, List.set_cons_zero, List.count_append, List.count_cons, List.count_nil, List.cons_append, List.nil_append]; omega)
theorem keep_P4 {G H : Res} {R rest : List Res} {D : List (List Res)} : Keep (G :: H :: (R ++ (rest ++ D.flatten))) (G :: H :: (rest ++ (D ++ [R]).flatten)) := by
  rw [List.flatten_append]
  simp only [List.flatten_cons, List.flatten_nil, List.append_nil]
  exact keep_count [] (fun _ x => by simp only [List.set_cons_succ, List.set_cons_zero, List.count_append, List.count_cons, List.count_nil, List.cons_append, List.nil_append]; omega)
theorem keep_S2 {S G H : Res} {rest W : List Res} : Keep (G :: H :: ((S :: rest) ++ W)) (S :: G :: H :: (rest ++ W)) := keep_count [] (fun _ x => by simp only [List.set_cons_succ, List.set_cons_zero, List.count_append, List.count_cons, List.count_nil, List.cons_append, List.nil_append]; omega)
theorem keep_S4a {Sm S G H : Res} {Z rest W : List Res} : Keep (Sm :: G :: H :: (((S :: Z) ++ rest) ++ W)) (Sm :: S :: G :: H :: (rest ++ W)) := keep_count Z (fun _ x => by simp only [List.set_cons_succ, List.set_cons_zero, List.count_append, List.count_cons, List.count_nil, List.cons_append, List.nil_append]; omega)
theorem keep_S4b {Sm S G H : Res} {R rest W : List Res} : Keep (S :: Sm :: G :: H :: ((R ++ rest) ++ W)) (Sm :: S :: G :: H :: (rest ++ W)) := keep_count R (fun _ x => by simp only [List.set_cons_succ, List.set_cons_zero, List.count_append, List.count_cons, List.count_nil, List.cons_append, List.nil_append]; omega)
theorem drop_of {α : Type} {l : List α} {k : Nat} {x : α} (h : l[k]? = some x) : l.drop k = x :: l.drop (k + 1) := by
  obtain ⟨h1, rfl⟩ := List.getElem?_eq_some_iff.1 h
  exact List.drop_eq_getElem_cons h1
theorem AllL.own {w0 : World} {B : Nat} {it : Nat → Li} {d : Nat → Nat} {k q : Nat} {D : List (List Res)} {hs : List Value} (h : AllL w0 B it d k D hs) (hq : q < k) : ∃ R, D[q]? = some R ∧ OwnL q (it q) R := by
  obtain ⟨R, v, e1, _, e3, _⟩ := h.2 q hq
  exact ⟨R, e1, e3⟩
theorem one_set {ys : List Value} {i : Nat} {v : Value} (h : ∀ u ∈ ys, u.oneCell' = true) (hv : v.oneCell' = true) : ∀ u ∈ ys.set i v, u.oneCell' = true := fun u hu => by
  rcases List.mem_or_eq_of_mem_set hu with h1 | rfl
  · exact h u h1
  · exact hv
end Go.Proofs.YtcojedoejpcolaaGreat

/- The kit: lists of numbers lie apart, walked. -/
namespace Go.Proofs.YtcojedoejpcolaaGreat
set_option linter.unusedVariables false
set_option linter.unusedSimpArgs false
open Go Go.RowKit
set_option maxRecDepth 100000
section
set_option maxHeartbeats 4000000 in
theorem kit_flatInts_cm {w0 : World} {B N cL : Nat} {AL : Option Addr} {it : Nat → Li} {X0 : Nat → List Value} (hN : N < 50000) (hx0 : ∀ k, k < N → (X0 k).length = (it k).m) (hnm : ∀ k, k < N → (it k).n ≤ (it k).m) (hns : ∀ k, k < N → (it k).n < 2 ^ 39) :
    Cm Tryz.prog 111 #[.slice AL N cL] w0 B (row (.slice AL N cL) 22 1 N (hdL N it) :: rowsL N it X0) (Is (.bool true)) := by
  refine Cm.mk Tryz.func111 rfl rfl fun M => ?_
  refine Cd.seq ?_
  refine Cd.region ?_
  refine Ol.p asb ?_
  refine Ol.nil ?_
  refine Cd.seq ?_
  refine Cd.seq ?_
  refine Cd.region ?_
  refine Ol.p asi ?_
  refine Ol.nil ?_
  refine Cd.block ?_
  refine Cd.loop (fun m σ L => ∃ (k : Nat) (X : Nat → List Value), m = N - k ∧ k ≤ N ∧ Has σ [(0, .slice AL N cL), (3, .int .i64 k)] ∧ (∀ q, q < N → (X q).length = (it q).m) ∧ (∀ q, q < k → ∀ j, j < (it q).n → (X q)[j]? = some (mkV q j)) ∧ row (.slice AL N cL) 22 1 N (hdL N it) :: rowsL N it X = L) (n := N) ⟨0, X0, rfl, Nat.zero_le _, ⟨rfl, rfl, trivial⟩, hx0, fun q hq => by omega, rfl⟩ ?_
  rintro _ σ L ⟨k, X, rfl, hk, hs, hxl, hxm, rfl⟩
  refine Cd.has hs ?_
  clear hs
  refine Cd.seq ?_
  refine Cd.seq ?_
  refine Cd.region ?_
  refine Ol.p mvi ?_
  refine Ol.p mvs ?_
  refine Ol.p (lens sl_L_L_int) ?_
  refine Ol.p lsi ?_
  refine Ol.nil ?_
  refine Cd.cond rfl (fun h => ?_) (fun h => ?_)
  · have hlt : k < N := by
      have h : decide ((k : Int) < (N : Int)) = true := h
      have := of_decide_eq_true h
      omega
    obtain ⟨x, hx⟩ : ∃ x, x = it k := ⟨_, rfl⟩
    have hnk := hns k hlt
    have hmk := hnm k hlt
    rw [← hx] at hnk hmk
    have hd : (hdL N it)[k * 1]? = some (.slice x.A x.n x.c) := by rw [Nat.mul_one, hdL_get hlt, hx]
    refine Cd.skip ?_
    refine Cd.seq ?_
    refine Cd.block ?_
    refine Cd.seq ?_
    refine Cd.region ?_
    refine Ol.p asi ?_
    refine Ol.nil ?_
    refine Cd.block ?_
    refine Cd.loop (fun m σ L => ∃ (i : Nat) (Y : Nat → List Value), m = x.n - i ∧ i ≤ x.n ∧ Has σ [(0, .slice AL N cL), (3, .int .i64 k), (4, .int .i64 i)] ∧ (∀ q, q < N → (Y q).length = (it q).m) ∧ (∀ q, q < k → ∀ j, j < (it q).n → (Y q)[j]? = some (mkV q j)) ∧ (∀ j, j < i → (Y k)[j]? = some (mkV k j)) ∧ row (.slice AL N cL) 22 1 N (hdL N it) :: rowsL N it Y = L) (n := x.n) ⟨0, X, rfl, Nat.zero_le _, ⟨rfl, rfl, rfl, trivial⟩, hxl, hxm, fun q hq => by omega, rfl⟩ ?_
    rintro _ σ L ⟨i, Y, rfl, hi, hs, hyl, hym, hyk, rfl⟩
    refine Cd.has hs ?_
    clear hs
    have hrk : (row (.slice AL N cL) 22 1 N (hdL N it) :: rowsL N it Y)[k + 1]? = some (row (.slice x.A x.m x.c) 3 1 x.m (Y k)) := by
      rw [List.getElem?_cons_succ, rowsL_get hlt, ← hx]
      rfl
    refine Cd.seq ?_
    refine Cd.seq ?_
    refine Cd.region ?_
    refine Ol.p mvi ?_
    refine Ol.p mvs ?_
    refine Ol.p mvi ?_
    refine Ol.p (ixn (ix := k) sl_L_L_int (Som.row (i := 0) rfl (by omega))) ?_
    refine Ol.p (ld (v := .slice x.A x.n x.c) one_L_int (Rd.row (i := 0) rfl hd)) ?_
    refine Ol.p (lens sl_L_int) ?_
    refine Ol.p lsi ?_
    refine Ol.nil ?_
    refine Cd.cond rfl (fun h => ?_) (fun h => ?_)
    · have hil : i < x.n := by
        have h : decide ((i : Int) < (x.n : Int)) = true := h
        have := of_decide_eq_true h
        omega
      have hyi : i < (Y k).length := by rw [hyl k hlt, ← hx]; omega
      refine Cd.skip ?_
      refine Cd.seq ?_
      refine Cd.block ?_
      refine Cd.draw mixed 9 (exIs (fun opNo => match opNo with | 7 => some (mkV k i) | _ => none)) (fun _ => []) (by kernel_rfl) exIs_in (fun u hu => ?_)
      refine Wk.p mvs ?_
      refine Wk.p mvi ?_
      refine Wk.p (ixn (ix := k) sl_L_L_int (Som.row (i := 0) rfl (by omega))) ?_
      refine Wk.p (ld (v := .slice x.A x.n x.c) one_L_int (Rd.row (i := 0) rfl hd)) ?_
      refine Wk.p mvi ?_
      refine Wk.p mvi ?_
      refine Wk.p mvi ?_
      refine Wk.dk hu (sp_call (vs := [.int .i64 (k : Int), .int .i64 (i : Int)]) en_kit_mark (fun M w' hh => kit_mark_ct (by omega) (by omega))) ?_
      refine Wk.p (ixn1 (ix := i) sl_L_int (Som.row hrk (by omega))) ?_
      refine Wk.nil ?_
      rw [needs_exIs hu rfl]
      refine Ol.s (str (v := mkV k i) sz_int rfl rfl hrk hyi rfl) ?_
      refine Ol.nil ?_
      refine Cd.region ?_
      refine Ol.p mvi ?_
      refine Ol.p addi ?_
      refine Ol.p asi ?_
      refine Ol.nil ?_
      refine ⟨x.n - (i + 1), by omega, i + 1, fun q => if q = k then (Y k).set i (mkV k i) else Y q, rfl, by omega, ⟨rfl, rfl, rfl, trivial⟩, ?_, ?_, ?_, ?_⟩
      · intro q hq
        by_cases e : q = k
        · subst e; simp [hyl q hq]
        · simp [e, hyl q hq]
      · intro q hq j hj
        have e : q ≠ k := by omega
        simp only [if_neg e]
        exact hym q hq j hj
      · intro j hj
        simp only [if_pos]
        rcases Nat.lt_or_ge j i with h1 | h1
        · rw [List.getElem?_set_ne (by omega)]; exact hyk j h1
        · have : j = i := by omega
          subst this
          rw [List.getElem?_set_self hyi]
      · rw [List.set_cons_succ, hx]
        exact congrArg _ rowsL_set.symm
    have hie : i = x.n := by
      have h : decide ((i : Int) < (x.n : Int)) = false := h
      have := of_decide_eq_false h
      omega
    subst hie
    refine Cd.exit (id := 2) ?_
    refine Cd.region ?_
    refine Ol.p mvi ?_
    refine Ol.p addi ?_
    refine Ol.p asi ?_
    refine Ol.nil ?_
    refine ⟨N - (k + 1), by omega, k + 1, Y, rfl, by omega, ⟨rfl, rfl, trivial⟩, hyl, ?_, rfl⟩
    intro q hq j hj
    rcases Nat.lt_or_ge q k with h1 | h1
    · exact hym q h1 j hj
    · have : q = k := by omega
      subst this
      rw [← hx] at hj
      exact hyk j hj
  have hke : k = N := by
    have h : decide ((k : Int) < (N : Int)) = false := h
    have := of_decide_eq_false h
    omega
  obtain rfl : N = k := hke.symm
  refine Cd.exit (id := 0) ?_
  refine Cd.seq ?_
  refine Cd.region ?_
  refine Ol.p mvs ?_
  refine Ol.p (lens sl_L_L_int) ?_
  refine Ol.x (mks (n := N) (c := N) sl_L_L_int zr_L_int) ?_
  rintro _ _ ⟨gm, rfl, rfl⟩
  refine Ol.p ass ?_
  refine Ol.nil ?_
  obtain ⟨H0, hH0⟩ : ∃ H0, H0 = (madeCells (Value.slice none 0 0).cells (N * 1)).toList.take (N * 1) := ⟨_, rfl⟩
  rw [← hH0]
  refine Cd.rlen (i := 0) (xs := H0) (n := N) (s := 1) rfl fun hH0l => ?_
  rw [Nat.mul_one] at hH0l
  clear hH0
  rw [restL_all]
  obtain ⟨Hd, hHd⟩ : ∃ Hd, Hd = row (.slice AL N cL) 22 1 N (hdL N it) := ⟨_, rfl⟩
  rw [← hHd]
  obtain ⟨dd, hdd⟩ : ∃ dd : Nat → Nat, dd = fun q => (it q).n + 64 := ⟨_, rfl⟩
  refine Cd.seq ?_
  refine Cd.seq ?_
  refine Cd.region ?_
  refine Ol.p asi ?_
  refine Ol.nil ?_
  refine Cd.block ?_
  refine Cd.loop (fun m σ L => ∃ (k : Nat) (hs : List Value) (D : List (List Res)), m = N - k ∧ k ≤ N ∧ Has σ [(0, .slice AL N cL), (5, .slice (some ⟨gm, 0, none⟩) N N), (6, .int .i64 k)] ∧ hs.length = N ∧ AllL w0 B it dd k D hs ∧ row (.slice (some ⟨gm, 0, none⟩) N N) 22 1 N hs :: Hd :: (restL N it X k ++ D.flatten) = L) (n := N) ⟨0, H0, [], rfl, Nat.zero_le _, ⟨rfl, rfl, rfl, trivial⟩, hH0l, ⟨rfl, fun q hq => by omega⟩, by rw [List.flatten_nil, List.append_nil]⟩ ?_
  rintro _ σ L ⟨k, hs, D, rfl, hk, hs', hsl, hA, rfl⟩
  refine Cd.has hs' ?_
  clear hs'
  refine Cd.seq ?_
  refine Cd.seq ?_
  refine Cd.region ?_
  refine Ol.p mvi ?_
  refine Ol.p mvs ?_
  refine Ol.p (lens sl_L_L_int) ?_
  refine Ol.p lsi ?_
  refine Ol.nil ?_
  refine Cd.cond rfl (fun h => ?_) (fun h => ?_)
  · have hlt : k < N := by
      have h : decide ((k : Int) < (N : Int)) = true := h
      have := of_decide_eq_true h
      omega
    obtain ⟨x, hx⟩ : ∃ x, x = it k := ⟨_, rfl⟩
    have hnk := hns k hlt
    have hmk := hnm k hlt
    have hml := hxl k hlt
    have hmm := hxm k hlt
    rw [← hx] at hnk hmk hml hmm
    have hd : (hdL N it)[k * 1]? = some (.slice x.A x.n x.c) := by rw [Nat.mul_one, hdL_get hlt, hx]
    refine Cd.skip ?_
    refine Cd.seq ?_
    refine Cd.block ?_
    refine Cd.seq ?_
    refine Cd.region ?_
    refine Ol.p mvs ?_
    refine Ol.p mvi ?_
    refine Ol.p (ixn (ix := k) sl_L_L_int (Som.row (i := 1) (congrArg some hHd) (by omega))) ?_
    refine Ol.p (ld (v := .slice x.A x.n x.c) one_L_int (Rd.row (i := 1) (congrArg some hHd) hd)) ?_
    refine Ol.p ass ?_
    refine Ol.nil ?_
    rw [restL_cons hlt, ← hx]
    refine Cd.keep keep_S2 ?_
    obtain ⟨Y, hY⟩ : ∃ Y, Y = restL N it X (k + 1) ++ D.flatten := ⟨_, rfl⟩
    rw [← hY]
    refine Cd.seq ?_
    refine Cd.seq ?_
    refine Cd.region ?_
    refine Ol.p asi ?_
    refine Ol.nil ?_
    refine Cd.block ?_
    refine Cd.grow0 hml hmk hmm fun S0 hS0 => ?_
    refine Cd.loop (fun m σ L => ∃ (i : Nat) (v : Value) (S : Res) (Z : List Res), m = 64 - i ∧ i ≤ 64 ∧ Has σ [(0, .slice AL N cL), (5, .slice (some ⟨gm, 0, none⟩) N N), (6, .int .i64 k), (7, v), (8, .int .i64 i)] ∧ GrowsL k i x v S Z ∧ S :: row (.slice (some ⟨gm, 0, none⟩) N N) 22 1 N hs :: Hd :: (Z ++ Y) = L) (n := 64) ⟨0, _, S0, [], rfl, Nat.zero_le _, ⟨rfl, rfl, rfl, rfl, rfl, trivial⟩, hS0, rfl⟩ ?_
    rintro _ σ L ⟨i, v, S, Z, rfl, hi, hs', hG, rfl⟩
    refine Cd.has hs' ?_
    clear hs'
    refine Cd.seq ?_
    refine Cd.seq ?_
    refine Cd.region ?_
    refine Ol.p mvi ?_
    refine Ol.p lsi ?_
    refine Ol.nil ?_
    refine Cd.cond rfl (fun h => ?_) (fun h => ?_)
    · have hil : i < 64 := by
        have h : decide ((i : Int) < 64) = true := h
        have := of_decide_eq_true h
        omega
      have hmk2 : ∀ w', Ct Tryz.prog 54 #[.int .i64 (k : Int), .int .i64 ((x.n : Int) + (i : Int))] w' (Is (mkV k (x.n + i))) := fun w' => by
        rw [show (x.n : Int) + (i : Int) = ((x.n + i : Nat) : Int) by omega]
        exact kit_mark_ct (by omega) (by omega)
      refine Cd.skip ?_
      refine Cd.mid (fun σ' L' => ∃ (v' : Value) (S' : Res) (Z' : List Res), Has σ' [(0, .slice AL N cL), (5, .slice (some ⟨gm, 0, none⟩) N N), (6, .int .i64 k), (7, v'), (8, .int .i64 i)] ∧ GrowsL k (i + 1) x v' S' Z' ∧ S' :: row (.slice (some ⟨gm, 0, none⟩) N N) 22 1 N hs :: Hd :: (Z' ++ Y) = L') ?_ ?_
      · refine Cd.block ?_
        rcases hG with ⟨g, cs, rfl, hxA, rfl, rfl, hle, hcs, hmv⟩ | ⟨A, c, rfl, rfl, hZ⟩
        · skip
          refine Cd.region ?_
          refine Ol.p mvs ?_
          refine Ol.p mvi ?_
          refine Ol.p mvs ?_
          refine Ol.p mvi ?_
          refine Ol.p (ixn (ix := k) sl_L_L_int (Som.row (i := 2) (congrArg some hHd) (by omega))) ?_
          refine Ol.p (ld (v := .slice x.A x.n x.c) one_L_int (Rd.row (i := 2) (congrArg some hHd) hd)) ?_
          refine Ol.p (lens sl_L_int) ?_
          refine Ol.p mvi ?_
          refine Ol.p addi ?_
          refine Ol.s (cl (v := mkV k (x.n + i)) (vs := [.int .i64 (k : Int), .int .i64 ((x.n : Int) + (i : Int))]) en_kit_mark (fun M w' hh => hmk2 w')) ?_
          refine Ol.x (bsv [mkV k (x.n + i)] sl_L_int zr_int (by simp [Value.cells, mkV])) ?_
          rintro _ _ ⟨g19, rfl, rfl⟩
          refine Ol.x (apk (i := 1) (n := x.n + i) (m := 1) (c := x.c) (xs := mkVs k (x.n + i)) sl_L_int zr_int rfl rfl hcs hle (mkVs_len _ _) (fun j u hu => by obtain ⟨hj, rfl⟩ := mkVs_of hu; exact hmv j hj) (by decide) (Src.row (i := 0) rfl rfl) (by intro u hu; simp at hu; subst hu; rfl) (by unfold maxLen; omega) (by omega)) ?_
          rintro v' L' hK; obtain ⟨S', Z', hkp, hG'⟩ := grows_inA hxA hle hcs hmv hK; refine Ol.keep hkp ?_
          refine Ol.p (as_ rfl) ?_
          refine Ol.nil ?_
          exact ⟨v', S', Z', ⟨rfl, rfl, rfl, rfl, rfl, trivial⟩, hG', rfl⟩
        · skip
          refine Cd.region ?_
          refine Ol.p mvs ?_
          refine Ol.p mvi ?_
          refine Ol.p mvs ?_
          refine Ol.p mvi ?_
          refine Ol.p (ixn (ix := k) sl_L_L_int (Som.row (i := 2) (congrArg some hHd) (by omega))) ?_
          refine Ol.p (ld (v := .slice x.A x.n x.c) one_L_int (Rd.row (i := 2) (congrArg some hHd) hd)) ?_
          refine Ol.p (lens sl_L_int) ?_
          refine Ol.p mvi ?_
          refine Ol.p addi ?_
          refine Ol.s (cl (v := mkV k (x.n + i)) (vs := [.int .i64 (k : Int), .int .i64 ((x.n : Int) + (i : Int))]) en_kit_mark (fun M w' hh => hmk2 w')) ?_
          refine Ol.x (bsv [mkV k (x.n + i)] sl_L_int zr_int (by simp [Value.cells, mkV])) ?_
          rintro _ _ ⟨g19, rfl, rfl⟩
          refine Ol.x (apn (i := 1) (n := x.n + i) (m := 1) sl_L_int zr_int rfl (by decide) rfl (Src.row (i := 0) rfl rfl) (by intro u hu; simp at hu; subst hu; rfl) (by unfold maxLen; omega) (by omega)) ?_
          rintro v' L' hK; obtain ⟨S', Z', hkp, hG'⟩ := grows_inB hZ hK; refine Ol.keep hkp ?_
          refine Ol.p (as_ rfl) ?_
          refine Ol.nil ?_
          exact ⟨v', S', Z', ⟨rfl, rfl, rfl, rfl, rfl, trivial⟩, hG', rfl⟩
      rintro σ' _ ⟨v', S', Z', hs', hG', rfl⟩
      refine Cd.has hs' ?_
      clear hs'
      refine Cd.region ?_
      refine Ol.p mvi ?_
      refine Ol.p addi ?_
      refine Ol.p asi ?_
      refine Ol.nil ?_
      exact ⟨64 - (i + 1), by omega, i + 1, v', S', Z', rfl, by omega, ⟨rfl, rfl, rfl, rfl, rfl, trivial⟩, hG', rfl⟩
    have hie : i = 64 := by
      have h : decide ((i : Int) < 64) = false := h
      have := of_decide_eq_false h
      omega
    subst hie
    refine Cd.exit (id := 6) ?_
    have hgr := hG.done (w0 := w0) (B := B)
    obtain ⟨A7, c7, rfl⟩ := hG.val
    refine Cd.region ?_
    refine Ol.p mvs ?_
    refine Ol.p mvi ?_
    refine Ol.p mvs ?_
    refine Ol.p (ixn1 (ix := k) sl_L_L_int (Som.row (i := 1) rfl (by omega))) ?_
    refine Ol.s (str (i := 1) (k := k) (v := .slice A7 (x.n + 64) c7) sz_L_int rfl rfl rfl (by omega) rfl) ?_
    refine Ol.nil ?_
    rw [hY]
    refine Cd.keep keep_P2 ?_
    refine Cd.region ?_
    refine Ol.p mvi ?_
    refine Ol.p addi ?_
    refine Ol.p asi ?_
    refine Ol.nil ?_
    exact ⟨N - (k + 1), by omega, k + 1, hs.set k _, D ++ [Z ++ [S]], rfl, by omega, ⟨rfl, rfl, rfl, trivial⟩, by simp [hsl], hA.add (by omega) (by rw [hdd]; show GrownL w0 B k ((it k).n + 64) (it k) _ _; rw [← hx]; exact hgr), rfl⟩
  have hke : k = N := by
    have h : decide ((k : Int) < (N : Int)) = false := h
    have := of_decide_eq_false h
    omega
  obtain rfl : N = k := hke.symm
  refine Cd.exit (id := 4) ?_
  rw [restL_end, List.nil_append]
  obtain ⟨LL, hLL⟩ : ∃ LL, LL = row (.slice (some ⟨gm, 0, none⟩) N N) 22 1 N hs :: Hd :: D.flatten := ⟨_, rfl⟩
  have hG0 : LL[0]? = some (row (.slice (some ⟨gm, 0, none⟩) N N) 22 1 N hs) := by rw [hLL]; rfl
  have hrd : ∀ q, q < N → Src w0 B LL (it q).A (it q).n 1 (mkVs q (it q).n) ∧ ∃ (A : Option Addr) (c : Nat) (ys : List Value), hs[q]? = some (.slice A ((it q).n + 64) c) ∧ Src w0 B LL A ((it q).n + 64) 1 ys ∧ ∀ j : Nat, j < (it q).n + 64 → ys[j]? = some (mkV q j) := fun q hq => by
    have := hA.reads (L := [row (.slice (some ⟨gm, 0, none⟩) N N) 22 1 N hs, Hd]) hq
    rw [hdd] at this
    rw [hLL]
    exact this
  have hLd : LL[1]? = some (row (.slice AL N cL) 22 1 N (hdL N it)) := by rw [hLL, hHd]; rfl
  rw [← hLL]
  refine Cd.seq ?_
  refine Cd.seq ?_
  refine Cd.region ?_
  refine Ol.p asi ?_
  refine Ol.nil ?_
  refine Cd.block ?_
  refine Cd.loop (fun m σ L => ∃ k : Nat, m = N - k ∧ k ≤ N ∧ Has σ [(0, .slice AL N cL), (5, .slice (some ⟨gm, 0, none⟩) N N), (9, .int .i64 k)] ∧ LL = L) (n := N) ⟨0, rfl, Nat.zero_le _, ⟨rfl, rfl, rfl, trivial⟩, rfl⟩ ?_
  rintro _ σ _ ⟨k, rfl, hk, hs', rfl⟩
  refine Cd.has hs' ?_
  clear hs'
  refine Cd.seq ?_
  refine Cd.seq ?_
  refine Cd.region ?_
  refine Ol.p mvi ?_
  refine Ol.p mvs ?_
  refine Ol.p (lens sl_L_L_int) ?_
  refine Ol.p lsi ?_
  refine Ol.nil ?_
  refine Cd.cond rfl (fun h => ?_) (fun h => ?_)
  · have hlt : k < N := by
      have h : decide ((k : Int) < (N : Int)) = true := h
      have := of_decide_eq_true h
      omega
    obtain ⟨hsl2, Ag, cg, ys, hgk, hsg, hyg⟩ := hrd k hlt
    obtain ⟨x, hx⟩ : ∃ x, x = it k := ⟨_, rfl⟩
    have hnk := hns k hlt
    have hd : (hdL N it)[k * 1]? = some (.slice x.A x.n x.c) := by rw [Nat.mul_one, hdL_get hlt, hx]
    rw [← hx] at hnk hsl2 hgk hsg hyg
    have hgk1 : hs[k * 1]? = some (.slice Ag (x.n + 64) cg) := by rw [Nat.mul_one]; exact hgk
    refine Cd.skip ?_
    refine Cd.seq ?_
    refine Cd.block ?_
    refine Cd.seq ?_
    refine Cd.region ?_
    refine Ol.p asi ?_
    refine Ol.nil ?_
    refine Cd.block ?_
    refine Cd.loop (fun m σ L => ∃ i : Nat, m = x.n + 64 - i ∧ i ≤ x.n + 64 ∧ Has σ [(0, .slice AL N cL), (5, .slice (some ⟨gm, 0, none⟩) N N), (9, .int .i64 k), (10, .int .i64 i)] ∧ LL = L) (n := x.n + 64) ⟨0, rfl, Nat.zero_le _, ⟨rfl, rfl, rfl, rfl, trivial⟩, rfl⟩ ?_
    rintro _ σ _ ⟨i, rfl, hi, hs', rfl⟩
    refine Cd.has hs' ?_
    clear hs'
    refine Cd.seq ?_
    refine Cd.seq ?_
    refine Cd.region ?_
    refine Ol.p mvi ?_
    refine Ol.p mvs ?_
    refine Ol.p mvi ?_
    refine Ol.p (ixn (ix := k) sl_L_L_int (Som.row hG0 (by omega))) ?_
    refine Ol.p (ld (v := .slice Ag (x.n + 64) cg) one_L_int (Rd.row hG0 hgk1)) ?_
    refine Ol.p (lens sl_L_int) ?_
    refine Ol.p lsi ?_
    refine Ol.nil ?_
    refine Cd.cond rfl (fun h => ?_) (fun h => ?_)
    · have hil : i < x.n + 64 := by
        have h : decide ((i : Int) < ((x.n + 64 : Nat) : Int)) = true := h
        have := of_decide_eq_true h
        omega
      have q12 : (!decide (mkN k i = mkN k i)) = false := by simp
      refine Cd.skip ?_
      refine Cd.seq ?_
      refine Cd.block ?_
      refine Cd.mid (fun σ' L' => Has σ' [(0, .slice AL N cL), (5, .slice (some ⟨gm, 0, none⟩) N N), (9, .int .i64 k), (10, .int .i64 i), (122, .bool false)] ∧ LL = L') ?_ ?_
      · cases q20 : decide ((i : Int) < (x.n : Int)) with
        | true =>
          have hin : i < x.n := by have := of_decide_eq_true q20; omega
          refine Cd.draw mixed 35 (exIs (fun opNo => match opNo with | 9 => some ((.int .i64 (mkN k i))) | 30 => some ((.int .i64 (mkN k i))) | _ => none)) (fun _ => []) (by kernel_rfl) exIs_in (fun u hu => ?_)
          refine Wk.p mvs ?_
          refine Wk.p mvi ?_
          refine Wk.p (ixn (ix := k) sl_L_L_int (Som.row hG0 (by omega))) ?_
          refine Wk.p (ld (v := .slice Ag (x.n + 64) cg) one_L_int (Rd.row hG0 hgk1)) ?_
          refine Wk.p mvi ?_
          refine Wk.p (ixn1 (ix := i) sl_L_int (Src.som hsg (by omega))) ?_
          refine Wk.p (ld (v := .int .i64 (mkN k i)) one_int (Src.rd hsg (hyg i hil))) ?_
          refine Wk.p mvi ?_
          refine Wk.p mvi ?_
          refine Wk.dk hu (sp_call (vs := [.int .i64 (k : Int), .int .i64 (i : Int)]) en_kit_mark (fun M w' hh => kit_mark_ct (by omega) (by omega))) ?_
          refine Wk.p eqi ?_
          refine Wk.p noti ?_
          refine Wk.p mvb ?_
          refine Wk.gp q12 mvi ?_
          refine Wk.gp q12 mvs ?_
          refine Wk.gp q12 mvi ?_
          refine Wk.gp q12 (ixn (ix := k) sl_L_L_int (Som.row hLd (by omega))) ?_
          refine Wk.gp q12 (ld (v := .slice x.A x.n x.c) one_L_int (Rd.row hLd hd)) ?_
          refine Wk.gp q12 (lens sl_L_int) ?_
          refine Wk.gp q12 lsi ?_
          refine Wk.gp q12 mvb ?_
          refine Wk.gp q20 mvs ?_
          refine Wk.gp q20 mvi ?_
          refine Wk.gp q20 (ixn (ix := k) sl_L_L_int (Som.row hLd (by omega))) ?_
          refine Wk.gp q20 (ld (v := .slice x.A x.n x.c) one_L_int (Rd.row hLd hd)) ?_
          refine Wk.gp q20 mvi ?_
          refine Wk.gp q20 (ixn1 (ix := i) sl_L_int (Src.som hsl2 (by omega))) ?_
          refine Wk.gp q20 (ld (v := .int .i64 (mkN k i)) one_int (Src.rd hsl2 (mkVs_get hin))) ?_
          refine Wk.gp q20 mvi ?_
          refine Wk.gp q20 mvi ?_
          refine Wk.gdk hu q20 (sp_call (vs := [.int .i64 (k : Int), .int .i64 (i : Int)]) en_kit_mark (fun M w' hh => kit_mark_ct (by omega) (by omega))) ?_
          refine Wk.gp q20 eqi ?_
          refine Wk.gp q20 noti ?_
          refine Wk.gp q12 (pkTb q20) ?_
          refine Wk.p (pkFb q12) ?_
          refine Wk.nil ?_
          rw [needs_exIs hu rfl]
          refine Ol.nil ?_
          exact ⟨⟨rfl, rfl, rfl, rfl, congrArg Value.bool q12, trivial⟩, rfl⟩
        | false =>
          refine Cd.draw mixed 35 (exIs (fun opNo => match opNo with | 9 => some ((.int .i64 (mkN k i))) | _ => none)) (fun _ => []) (by kernel_rfl) exIs_in (fun u hu => ?_)
          refine Wk.p mvs ?_
          refine Wk.p mvi ?_
          refine Wk.p (ixn (ix := k) sl_L_L_int (Som.row hG0 (by omega))) ?_
          refine Wk.p (ld (v := .slice Ag (x.n + 64) cg) one_L_int (Rd.row hG0 hgk1)) ?_
          refine Wk.p mvi ?_
          refine Wk.p (ixn1 (ix := i) sl_L_int (Src.som hsg (by omega))) ?_
          refine Wk.p (ld (v := .int .i64 (mkN k i)) one_int (Src.rd hsg (hyg i hil))) ?_
          refine Wk.p mvi ?_
          refine Wk.p mvi ?_
          refine Wk.dk hu (sp_call (vs := [.int .i64 (k : Int), .int .i64 (i : Int)]) en_kit_mark (fun M w' hh => kit_mark_ct (by omega) (by omega))) ?_
          refine Wk.p eqi ?_
          refine Wk.p noti ?_
          refine Wk.p mvb ?_
          refine Wk.gp q12 mvi ?_
          refine Wk.gp q12 mvs ?_
          refine Wk.gp q12 mvi ?_
          refine Wk.gp q12 (ixn (ix := k) sl_L_L_int (Som.row hLd (by omega))) ?_
          refine Wk.gp q12 (ld (v := .slice x.A x.n x.c) one_L_int (Rd.row hLd hd)) ?_
          refine Wk.gp q12 (lens sl_L_int) ?_
          refine Wk.gp q12 lsi ?_
          refine Wk.gp q12 mvb ?_
          refine Wk.gn q20 ?_
          refine Wk.gn q20 ?_
          refine Wk.gn q20 ?_
          refine Wk.gn q20 ?_
          refine Wk.gn q20 ?_
          refine Wk.gn q20 ?_
          refine Wk.gn q20 ?_
          refine Wk.gn q20 ?_
          refine Wk.gn q20 ?_
          refine Wk.gn q20 ?_
          refine Wk.gn q20 ?_
          refine Wk.gn q20 ?_
          refine Wk.gp q12 (pkFb q20) ?_
          refine Wk.p (pkFb q12) ?_
          refine Wk.nil ?_
          rw [needs_exIs hu rfl]
          refine Ol.nil ?_
          exact ⟨⟨rfl, rfl, rfl, rfl, rfl, trivial⟩, rfl⟩
      rintro σ' _ ⟨hs', rfl⟩
      refine Cd.has hs' ?_
      clear hs'
      refine Cd.cond rfl (fun h => by cases h) (fun _ => ?_)
      refine Cd.skip ?_
      refine Cd.region ?_
      refine Ol.p mvi ?_
      refine Ol.p addi ?_
      refine Ol.p asi ?_
      refine Ol.nil ?_
      exact ⟨x.n + 64 - (i + 1), by omega, i + 1, rfl, by omega, ⟨rfl, rfl, rfl, rfl, trivial⟩, rfl⟩
    refine Cd.exit (id := 10) ?_
    refine Cd.region ?_
    refine Ol.p mvi ?_
    refine Ol.p addi ?_
    refine Ol.p asi ?_
    refine Ol.nil ?_
    exact ⟨N - (k + 1), by omega, k + 1, rfl, by omega, ⟨rfl, rfl, rfl, trivial⟩, rfl⟩
  have hke : k = N := by
    have h : decide ((k : Int) < (N : Int)) = false := h
    have := of_decide_eq_false h
    omega
  obtain rfl : N = k := hke.symm
  refine Cd.exit (id := 8) ?_
  clear hrd hG0 hLd
  subst hLL
  obtain ⟨d4, hd4⟩ : ∃ d4 : Nat → Nat, d4 = fun q => (it q).n := ⟨_, rfl⟩
  refine Cd.seq ?_
  refine Cd.seq ?_
  refine Cd.region ?_
  refine Ol.p asi ?_
  refine Ol.nil ?_
  refine Cd.block ?_
  refine Cd.loop (fun m σ L => ∃ (k : Nat) (hs : List Value) (E : List (List Res)), m = N - k ∧ k ≤ N ∧ Has σ [(0, .slice AL N cL), (5, .slice (some ⟨gm, 0, none⟩) N N), (11, .int .i64 k)] ∧ hs.length = N ∧ AllL w0 B it d4 k E hs ∧ row (.slice (some ⟨gm, 0, none⟩) N N) 22 1 N hs :: Hd :: ((D.drop k).flatten ++ E.flatten) = L) (n := N) ⟨0, hs, [], rfl, Nat.zero_le _, ⟨rfl, rfl, rfl, trivial⟩, hsl, ⟨rfl, fun q hq => by omega⟩, by rw [List.flatten_nil, List.append_nil, List.drop_zero]⟩ ?_
  rintro _ σ L ⟨k, hs2, E, rfl, hk, hs', hsl2, hA2, rfl⟩
  refine Cd.has hs' ?_
  clear hs'
  refine Cd.seq ?_
  refine Cd.seq ?_
  refine Cd.region ?_
  refine Ol.p mvi ?_
  refine Ol.p mvs ?_
  refine Ol.p (lens sl_L_L_int) ?_
  refine Ol.p lsi ?_
  refine Ol.nil ?_
  refine Cd.cond rfl (fun h => ?_) (fun h => ?_)
  · have hlt : k < N := by
      have h : decide ((k : Int) < (N : Int)) = true := h
      have := of_decide_eq_true h
      omega
    obtain ⟨x, hx⟩ : ∃ x, x = it k := ⟨_, rfl⟩
    have hnk := hns k hlt
    obtain ⟨R, hR, hO⟩ := hA.own hlt
    rw [← hx] at hnk hO
    have hd : (hdL N it)[k * 1]? = some (.slice x.A x.n x.c) := by rw [Nat.mul_one, hdL_get hlt, hx]
    refine Cd.skip ?_
    refine Cd.seq ?_
    refine Cd.block ?_
    refine Cd.seq ?_
    refine Cd.region ?_
    refine Ol.x (mks (n := 64) (c := 64) sl_L_int zr_int) ?_
    rintro _ _ ⟨gq, rfl, rfl⟩
    refine Ol.p ass ?_
    refine Ol.nil ?_
    obtain ⟨M0, hM0⟩ : ∃ M0, M0 = (madeCells (Value.int .i64 0).cells (64 * 1)).toList.take (64 * 1) := ⟨_, rfl⟩
    rw [← hM0]
    have hM1 : ∀ u ∈ M0, u.oneCell' = true := by
      rw [hM0]
      exact List.all_eq_true.1 (by kernel_rfl)
    have hM2 : M0.length = 64 := by rw [hM0]; kernel_rfl
    clear hM0
    obtain ⟨LL, hLL⟩ : ∃ LL, LL = row (.slice (some ⟨gm, 0, none⟩) N N) 22 1 N hs2 :: Hd :: ((D.drop k).flatten ++ E.flatten) := ⟨_, rfl⟩
    rw [← hLL]
    refine Cd.seq ?_
    refine Cd.seq ?_
    refine Cd.region ?_
    refine Ol.p asi ?_
    refine Ol.nil ?_
    refine Cd.block ?_
    refine Cd.loop (fun m σ L => ∃ (i : Nat) (ys : List Value), m = 64 - i ∧ i ≤ 64 ∧ Has σ [(0, .slice AL N cL), (5, .slice (some ⟨gm, 0, none⟩) N N), (11, .int .i64 k), (12, .slice (some ⟨gq, 0, none⟩) 64 64), (13, .int .i64 i)] ∧ ys.length = 64 ∧ (∀ u ∈ ys, u.oneCell' = true) ∧ row (.slice (some ⟨gq, 0, none⟩) 64 64) 3 1 64 ys :: LL = L) (n := 64) ⟨0, M0, rfl, Nat.zero_le _, ⟨rfl, rfl, rfl, rfl, rfl, trivial⟩, hM2, hM1, rfl⟩ ?_
    rintro _ σ L ⟨i, ys, rfl, hi, hs', hyl, hyo, rfl⟩
    refine Cd.has hs' ?_
    clear hs'
    refine Cd.seq ?_
    refine Cd.seq ?_
    refine Cd.region ?_
    refine Ol.p mvi ?_
    refine Ol.p lsi ?_
    refine Ol.nil ?_
    refine Cd.cond rfl (fun h => ?_) (fun h => ?_)
    · have hil : i < 64 := by
        have h : decide ((i : Int) < 64) = true := h
        have := of_decide_eq_true h
        omega
      have hmk2 : ∀ w', Ct Tryz.prog 54 #[.int .i64 ((k : Int) + (N : Int)), .int .i64 (i : Int)] w' (Is (mkV (k + N) i)) := fun w' => by
        rw [show (k : Int) + (N : Int) = ((k + N : Nat) : Int) by omega]
        exact kit_mark_ct (by omega) (by omega)
      refine Cd.skip ?_
      refine Cd.seq ?_
      refine Cd.block ?_
      refine Cd.region ?_
      refine Ol.p mvs ?_
      refine Ol.p mvi ?_
      refine Ol.p mvi ?_
      refine Ol.p mvs ?_
      refine Ol.p (lens sl_L_L_int) ?_
      refine Ol.p addi ?_
      refine Ol.p mvi ?_
      refine Ol.s (cl (v := mkV (k + N) i) (vs := [.int .i64 ((k : Int) + (N : Int)), .int .i64 (i : Int)]) en_kit_mark (fun M w' hh => hmk2 w')) ?_
      refine Ol.p (ixn1 (ix := i) sl_L_int (Som.row (i := 0) rfl (by omega))) ?_
      refine Ol.s (str (i := 0) (k := i) (v := mkV (k + N) i) sz_int rfl rfl rfl (by omega) rfl) ?_
      refine Ol.nil ?_
      refine Cd.region ?_
      refine Ol.p mvi ?_
      refine Ol.p addi ?_
      refine Ol.p asi ?_
      refine Ol.nil ?_
      exact ⟨64 - (i + 1), by omega, i + 1, ys.set i (mkV (k + N) i), rfl, by omega, ⟨rfl, rfl, rfl, rfl, rfl, trivial⟩, by simp [hyl], one_set hyo rfl, rfl⟩
    refine Cd.exit (id := 14) ?_
    rw [hLL, drop_of hR, List.flatten_cons]
    rcases hO with ⟨hA0, hn0, hc0⟩ | ⟨g, cs, Z, hxA, rfl, hle, hcs, hmv⟩
    · have hd0 : (hdL N it)[k * 1]? = some (.slice none 0 0) := by rw [hd, hA0, hn0, hc0]
      refine Cd.nr 3 1 ?_
      refine Cd.keep keep_S4b ?_
      refine Cd.region ?_
      refine Ol.p mvs ?_
      refine Ol.p mvi ?_
      refine Ol.p mvs ?_
      refine Ol.p mvi ?_
      refine Ol.p (ixn (ix := k) sl_L_L_int (Som.row (i := 3) (congrArg some hHd) (by omega))) ?_
      refine Ol.p (ld (v := .slice none 0 0) one_L_int (Rd.row (i := 3) (congrArg some hHd) hd0)) ?_
      refine Ol.p mvs ?_
      refine Ol.x (apn (i := 1) (n := 0) (m := 64) (xs := []) sl_L_int zr_int rfl (by decide) rfl (Src.row (i := 0) rfl (by omega)) hyo (by decide) (by decide)) ?_
      rintro v' L' hK; obtain ⟨R', hkp, hgr⟩ := grown_B (w0 := w0) (B := B) (k := k) (x := x) hyl hA0 hn0 hc0 hK; obtain ⟨A9, c9, rfl⟩ := hgr.val; refine Ol.keep hkp ?_
      refine Ol.p (ixn1 (ix := k) sl_L_L_int (Som.row (i := 0) rfl (by omega))) ?_
      refine Ol.s (str (i := 0) (k := k) (v := .slice A9 (x.n + 64) c9) sz_L_int rfl rfl rfl (by omega) rfl) ?_
      refine Ol.nil ?_
      refine Cd.keep keep_P4 ?_
      refine Cd.region ?_
      refine Ol.p mvi ?_
      refine Ol.p addi ?_
      refine Ol.p asi ?_
      refine Ol.nil ?_
      exact ⟨N - (k + 1), by omega, k + 1, hs2.set k _, E ++ [R'], rfl, by omega, ⟨rfl, rfl, rfl, trivial⟩, by simp [hsl2], hA2.add (by omega) (by rw [hd4]; show GrownL w0 B k (it k).n (it k) _ _; rw [← hx]; exact hgr), rfl⟩
    · have hd0 : (hdL N it)[k * 1]? = some (.slice (some ⟨g, 0, none⟩) x.n x.c) := by rw [hd, hxA]
      refine Cd.keep keep_S4a ?_
      refine Cd.region ?_
      refine Ol.p mvs ?_
      refine Ol.p mvi ?_
      refine Ol.p mvs ?_
      refine Ol.p mvi ?_
      refine Ol.p (ixn (ix := k) sl_L_L_int (Som.row (i := 3) (congrArg some hHd) (by omega))) ?_
      refine Ol.p (ld (v := .slice (some ⟨g, 0, none⟩) x.n x.c) one_L_int (Rd.row (i := 3) (congrArg some hHd) hd0)) ?_
      refine Ol.p mvs ?_
      refine Ol.x (apk (i := 1) (n := x.n) (m := 64) (c := x.c) (xs := mkVs k x.n) sl_L_int zr_int rfl rfl hcs hle (mkVs_len _ _) (fun j u hu => by obtain ⟨hj, rfl⟩ := mkVs_of hu; exact hmv j hj) (by decide) (Src.row (i := 0) rfl (by omega)) hyo (by unfold maxLen; omega) (by omega)) ?_
      rintro v' L' hK; obtain ⟨R', hkp, hgr⟩ := grown_A (w0 := w0) (B := B) (k := k) (x := x) hyl hxA hle hcs hmv hK; obtain ⟨A9, c9, rfl⟩ := hgr.val; refine Ol.keep hkp ?_
      refine Ol.p (ixn1 (ix := k) sl_L_L_int (Som.row (i := 0) rfl (by omega))) ?_
      refine Ol.s (str (i := 0) (k := k) (v := .slice A9 (x.n + 64) c9) sz_L_int rfl rfl rfl (by omega) rfl) ?_
      refine Ol.nil ?_
      refine Cd.keep keep_P4 ?_
      refine Cd.region ?_
      refine Ol.p mvi ?_
      refine Ol.p addi ?_
      refine Ol.p asi ?_
      refine Ol.nil ?_
      exact ⟨N - (k + 1), by omega, k + 1, hs2.set k _, E ++ [R'], rfl, by omega, ⟨rfl, rfl, rfl, trivial⟩, by simp [hsl2], hA2.add (by omega) (by rw [hd4]; show GrownL w0 B k (it k).n (it k) _ _; rw [← hx]; exact hgr), rfl⟩
  have hke : k = N := by
    have h : decide ((k : Int) < (N : Int)) = false := h
    have := of_decide_eq_false h
    omega
  obtain rfl : N = k := hke.symm
  refine Cd.exit (id := 12) ?_
  have hDe : D.drop N = [] := List.drop_eq_nil_of_le (by have := hA.1; omega)
  rw [hDe, List.flatten_nil, List.nil_append]
  obtain ⟨LL, hLL⟩ : ∃ LL, LL = row (.slice (some ⟨gm, 0, none⟩) N N) 22 1 N hs2 :: Hd :: E.flatten := ⟨_, rfl⟩
  have hG0 : LL[0]? = some (row (.slice (some ⟨gm, 0, none⟩) N N) 22 1 N hs2) := by rw [hLL]; rfl
  have hrd : ∀ q, q < N → Src w0 B LL (it q).A (it q).n 1 (mkVs q (it q).n) ∧ ∃ (A : Option Addr) (c : Nat) (ys : List Value), hs2[q]? = some (.slice A ((it q).n + 64) c) ∧ Src w0 B LL A ((it q).n + 64) 1 ys ∧ ∀ j : Nat, j < (it q).n → ys[j]? = some (mkV q j) := fun q hq => by
    have := hA2.reads (L := [row (.slice (some ⟨gm, 0, none⟩) N N) 22 1 N hs2, Hd]) hq
    rw [hd4] at this
    rw [hLL]
    exact this
  have hLd : LL[1]? = some (row (.slice AL N cL) 22 1 N (hdL N it)) := by rw [hLL, hHd]; rfl
  rw [← hLL]
  refine Cd.seq ?_
  refine Cd.seq ?_
  refine Cd.region ?_
  refine Ol.p asi ?_
  refine Ol.nil ?_
  refine Cd.block ?_
  refine Cd.loop (fun m σ L => ∃ k : Nat, m = N - k ∧ k ≤ N ∧ Has σ [(0, .slice AL N cL), (5, .slice (some ⟨gm, 0, none⟩) N N), (14, .int .i64 k)] ∧ LL = L) (n := N) ⟨0, rfl, Nat.zero_le _, ⟨rfl, rfl, rfl, trivial⟩, rfl⟩ ?_
  rintro _ σ _ ⟨k, rfl, hk, hs', rfl⟩
  refine Cd.has hs' ?_
  clear hs'
  refine Cd.seq ?_
  refine Cd.seq ?_
  refine Cd.region ?_
  refine Ol.p mvi ?_
  refine Ol.p mvs ?_
  refine Ol.p (lens sl_L_L_int) ?_
  refine Ol.p lsi ?_
  refine Ol.nil ?_
  refine Cd.cond rfl (fun h => ?_) (fun h => ?_)
  · have hlt : k < N := by
      have h : decide ((k : Int) < (N : Int)) = true := h
      have := of_decide_eq_true h
      omega
    obtain ⟨hsl3, Ag, cg, ys, hgk, hsg, hyg⟩ := hrd k hlt
    obtain ⟨x, hx⟩ : ∃ x, x = it k := ⟨_, rfl⟩
    have hnk := hns k hlt
    have hd : (hdL N it)[k * 1]? = some (.slice x.A x.n x.c) := by rw [Nat.mul_one, hdL_get hlt, hx]
    rw [← hx] at hnk hsl3 hgk hsg hyg
    have hgk1 : hs2[k * 1]? = some (.slice Ag (x.n + 64) cg) := by rw [Nat.mul_one]; exact hgk
    refine Cd.skip ?_
    refine Cd.seq ?_
    refine Cd.block ?_
    refine Cd.seq ?_
    refine Cd.region ?_
    refine Ol.p asi ?_
    refine Ol.nil ?_
    refine Cd.block ?_
    refine Cd.loop (fun m σ L => ∃ i : Nat, m = x.n - i ∧ i ≤ x.n ∧ Has σ [(0, .slice AL N cL), (5, .slice (some ⟨gm, 0, none⟩) N N), (14, .int .i64 k), (15, .int .i64 i)] ∧ LL = L) (n := x.n) ⟨0, rfl, Nat.zero_le _, ⟨rfl, rfl, rfl, rfl, trivial⟩, rfl⟩ ?_
    rintro _ σ _ ⟨i, rfl, hi, hs', rfl⟩
    refine Cd.has hs' ?_
    clear hs'
    refine Cd.seq ?_
    refine Cd.seq ?_
    refine Cd.region ?_
    refine Ol.p mvi ?_
    refine Ol.p mvs ?_
    refine Ol.p mvi ?_
    refine Ol.p (ixn (ix := k) sl_L_L_int (Som.row hLd (by omega))) ?_
    refine Ol.p (ld (v := .slice x.A x.n x.c) one_L_int (Rd.row hLd hd)) ?_
    refine Ol.p (lens sl_L_int) ?_
    refine Ol.p lsi ?_
    refine Ol.nil ?_
    refine Cd.cond rfl (fun h => ?_) (fun h => ?_)
    · have hil : i < x.n := by
        have h : decide ((i : Int) < (x.n : Int)) = true := h
        have := of_decide_eq_true h
        omega
      have q12 : (!decide (mkN k i = mkN k i)) = false := by simp
      refine Cd.skip ?_
      refine Cd.seq ?_
      refine Cd.block ?_
      refine Cd.mid (fun σ' L' => Has σ' [(0, .slice AL N cL), (5, .slice (some ⟨gm, 0, none⟩) N N), (14, .int .i64 k), (15, .int .i64 i), (192, .bool false)] ∧ LL = L') ?_ ?_
      · skip
        refine Cd.draw mixed 26 (exIs (fun opNo => match opNo with | 9 => some ((.int .i64 (mkN k i))) | 22 => some ((.int .i64 (mkN k i))) | _ => none)) (fun _ => []) (by kernel_rfl) exIs_in (fun u hu => ?_)
        refine Wk.p mvs ?_
        refine Wk.p mvi ?_
        refine Wk.p (ixn (ix := k) sl_L_L_int (Som.row hLd (by omega))) ?_
        refine Wk.p (ld (v := .slice x.A x.n x.c) one_L_int (Rd.row hLd hd)) ?_
        refine Wk.p mvi ?_
        refine Wk.p (ixn1 (ix := i) sl_L_int (Src.som hsl3 (by omega))) ?_
        refine Wk.p (ld (v := .int .i64 (mkN k i)) one_int (Src.rd hsl3 (mkVs_get hil))) ?_
        refine Wk.p mvi ?_
        refine Wk.p mvi ?_
        refine Wk.dk hu (sp_call (vs := [.int .i64 (k : Int), .int .i64 (i : Int)]) en_kit_mark (fun M w' hh => kit_mark_ct (by omega) (by omega))) ?_
        refine Wk.p eqi ?_
        refine Wk.p noti ?_
        refine Wk.p mvb ?_
        refine Wk.gp q12 mvs ?_
        refine Wk.gp q12 mvi ?_
        refine Wk.gp q12 (ixn (ix := k) sl_L_L_int (Som.row hG0 (by omega))) ?_
        refine Wk.gp q12 (ld (v := .slice Ag (x.n + 64) cg) one_L_int (Rd.row hG0 hgk1)) ?_
        refine Wk.gp q12 mvi ?_
        refine Wk.gp q12 (ixn1 (ix := i) sl_L_int (Src.som hsg (by omega))) ?_
        refine Wk.gp q12 (ld (v := .int .i64 (mkN k i)) one_int (Src.rd hsg (hyg i hil))) ?_
        refine Wk.gp q12 mvi ?_
        refine Wk.gp q12 mvi ?_
        refine Wk.gdk hu q12 (sp_call (vs := [.int .i64 (k : Int), .int .i64 (i : Int)]) en_kit_mark (fun M w' hh => kit_mark_ct (by omega) (by omega))) ?_
        refine Wk.gp q12 eqi ?_
        refine Wk.gp q12 noti ?_
        refine Wk.p (pkFb q12) ?_
        refine Wk.nil ?_
        rw [needs_exIs hu rfl]
        refine Ol.nil ?_
        exact ⟨⟨rfl, rfl, rfl, rfl, congrArg Value.bool q12, trivial⟩, rfl⟩
      rintro σ' _ ⟨hs', rfl⟩
      refine Cd.has hs' ?_
      clear hs'
      refine Cd.cond rfl (fun h => by cases h) (fun _ => ?_)
      refine Cd.skip ?_
      refine Cd.region ?_
      refine Ol.p mvi ?_
      refine Ol.p addi ?_
      refine Ol.p asi ?_
      refine Ol.nil ?_
      exact ⟨x.n - (i + 1), by omega, i + 1, rfl, by omega, ⟨rfl, rfl, rfl, rfl, trivial⟩, rfl⟩
    refine Cd.exit (id := 18) ?_
    refine Cd.region ?_
    refine Ol.p mvi ?_
    refine Ol.p addi ?_
    refine Ol.p asi ?_
    refine Ol.nil ?_
    exact ⟨N - (k + 1), by omega, k + 1, rfl, by omega, ⟨rfl, rfl, rfl, trivial⟩, rfl⟩
  refine Cd.exit (id := 16) ?_
  refine Cd.seq ?_
  refine Cd.region ?_
  refine Ol.p asb ?_
  refine Ol.nil ?_
  exact Cd.ret ⟨.bool true, ret1 rfl rfl, [], Keep.nil, rfl, rfl⟩
end
end Go.Proofs.YtcojedoejpcolaaGreat

/- The kit: lists that lie apart: at no lists, walked. -/
namespace Go.Proofs.YtcojedoejpcolaaGreat
set_option linter.unusedVariables false
open Go Go.RowKit
set_option maxRecDepth 100000
section
theorem kit_flatLimbs_nil {w : World} : Ct Tryz.prog 109 #[.slice none 0 0] w (Is (.bool true)) := by
  refine Ct.mk Tryz.func109 rfl rfl ?_
  refine Cd.seq ?_
  refine Cd.region ?_
  refine Ol.p asb ?_
  refine Ol.nil ?_
  refine Cd.seq ?_
  refine Cd.seq ?_
  refine Cd.region ?_
  refine Ol.p asi ?_
  refine Ol.nil ?_
  refine Cd.block ?_
  refine Cd.loop (fun m σ L => Has σ [(0, .slice none 0 0), (3, .int .i64 0)] ∧ [] = L) (n := 0) ⟨⟨rfl, rfl, trivial⟩, rfl⟩ ?_
  rintro _ σ L ⟨hs, rfl⟩
  refine Cd.has hs ?_
  clear hs
  refine Cd.seq ?_
  refine Cd.seq ?_
  refine Cd.region ?_
  refine Ol.p mvi ?_
  refine Ol.p mvs ?_
  refine Ol.p (lens sl_L_L_uint32) ?_
  refine Ol.p lsi ?_
  refine Ol.nil ?_
  refine Cd.cond rfl (fun h => absurd h (by decide)) (fun _ => ?_)
  refine Cd.exit (id := 0) ?_
  refine Cd.seq ?_
  refine Cd.region ?_
  refine Ol.p mvs ?_
  refine Ol.p (lens sl_L_L_uint32) ?_
  refine Ol.x (mks (n := 0) (c := 0) sl_L_L_uint32 zr_L_uint32) ?_
  rintro _ _ ⟨gm, rfl, rfl⟩
  refine Ol.p ass ?_
  refine Ol.nil ?_
  obtain ⟨VG, hVG⟩ : ∃ V, V = Value.slice (some ⟨gm, 0, none⟩) 0 0 := ⟨_, rfl⟩
  rw [← hVG]
  obtain ⟨LG, hLG⟩ : ∃ LG : List Res, LG = [row VG 186 1 0 ((madeCells (Value.slice none 0 0).cells (0 * 1)).toList.take (0 * 1))] := ⟨_, rfl⟩
  rw [← hLG]
  refine Cd.seq ?_
  refine Cd.seq ?_
  refine Cd.region ?_
  refine Ol.p asi ?_
  refine Ol.nil ?_
  refine Cd.block ?_
  refine Cd.loop (fun m σ L => Has σ [(0, .slice none 0 0), (5, VG), (6, .int .i64 0)] ∧ LG = L) (n := 0) ⟨⟨rfl, rfl, rfl, trivial⟩, rfl⟩ ?_
  rintro _ σ L ⟨hs, rfl⟩
  refine Cd.has hs ?_
  clear hs
  refine Cd.seq ?_
  refine Cd.seq ?_
  refine Cd.region ?_
  refine Ol.p mvi ?_
  refine Ol.p mvs ?_
  refine Ol.p (lens sl_L_L_uint32) ?_
  refine Ol.p lsi ?_
  refine Ol.nil ?_
  refine Cd.cond rfl (fun h => absurd h (by decide)) (fun _ => ?_)
  refine Cd.exit (id := 4) ?_
  refine Cd.seq ?_
  refine Cd.seq ?_
  refine Cd.region ?_
  refine Ol.p asi ?_
  refine Ol.nil ?_
  refine Cd.block ?_
  refine Cd.loop (fun m σ L => Has σ [(0, .slice none 0 0), (5, VG), (9, .int .i64 0)] ∧ LG = L) (n := 0) ⟨⟨rfl, rfl, rfl, trivial⟩, rfl⟩ ?_
  rintro _ σ L ⟨hs, rfl⟩
  refine Cd.has hs ?_
  clear hs
  refine Cd.seq ?_
  refine Cd.seq ?_
  refine Cd.region ?_
  refine Ol.p mvi ?_
  refine Ol.p mvs ?_
  refine Ol.p (lens sl_L_L_uint32) ?_
  refine Ol.p lsi ?_
  refine Ol.nil ?_
  refine Cd.cond rfl (fun h => absurd h (by decide)) (fun _ => ?_)
  refine Cd.exit (id := 8) ?_
  refine Cd.seq ?_
  refine Cd.seq ?_
  refine Cd.region ?_
  refine Ol.p asi ?_
  refine Ol.nil ?_
  refine Cd.block ?_
  refine Cd.loop (fun m σ L => Has σ [(0, .slice none 0 0), (5, VG), (11, .int .i64 0)] ∧ LG = L) (n := 0) ⟨⟨rfl, rfl, rfl, trivial⟩, rfl⟩ ?_
  rintro _ σ L ⟨hs, rfl⟩
  refine Cd.has hs ?_
  clear hs
  refine Cd.seq ?_
  refine Cd.seq ?_
  refine Cd.region ?_
  refine Ol.p mvi ?_
  refine Ol.p mvs ?_
  refine Ol.p (lens sl_L_L_uint32) ?_
  refine Ol.p lsi ?_
  refine Ol.nil ?_
  refine Cd.cond rfl (fun h => absurd h (by decide)) (fun _ => ?_)
  refine Cd.exit (id := 12) ?_
  refine Cd.seq ?_
  refine Cd.seq ?_
  refine Cd.region ?_
  refine Ol.p asi ?_
  refine Ol.nil ?_
  refine Cd.block ?_
  refine Cd.loop (fun m σ L => Has σ [(0, .slice none 0 0), (5, VG), (14, .int .i64 0)] ∧ LG = L) (n := 0) ⟨⟨rfl, rfl, rfl, trivial⟩, rfl⟩ ?_
  rintro _ σ L ⟨hs, rfl⟩
  refine Cd.has hs ?_
  clear hs
  refine Cd.seq ?_
  refine Cd.seq ?_
  refine Cd.region ?_
  refine Ol.p mvi ?_
  refine Ol.p mvs ?_
  refine Ol.p (lens sl_L_L_uint32) ?_
  refine Ol.p lsi ?_
  refine Ol.nil ?_
  refine Cd.cond rfl (fun h => absurd h (by decide)) (fun _ => ?_)
  refine Cd.exit (id := 16) ?_
  refine Cd.seq ?_
  refine Cd.region ?_
  refine Ol.p asb ?_
  refine Ol.nil ?_
  exact Cd.ret ⟨.bool true, ret1 rfl rfl, [], Keep.nil, rfl, rfl⟩
theorem kit_flatWords_nil {w : World} : Ct Tryz.prog 110 #[.slice none 0 0] w (Is (.bool true)) := by
  refine Ct.mk Tryz.func110 rfl rfl ?_
  refine Cd.seq ?_
  refine Cd.region ?_
  refine Ol.p asb ?_
  refine Ol.nil ?_
  refine Cd.seq ?_
  refine Cd.seq ?_
  refine Cd.region ?_
  refine Ol.p asi ?_
  refine Ol.nil ?_
  refine Cd.block ?_
  refine Cd.loop (fun m σ L => Has σ [(0, .slice none 0 0), (3, .int .i64 0)] ∧ [] = L) (n := 0) ⟨⟨rfl, rfl, trivial⟩, rfl⟩ ?_
  rintro _ σ L ⟨hs, rfl⟩
  refine Cd.has hs ?_
  clear hs
  refine Cd.seq ?_
  refine Cd.seq ?_
  refine Cd.region ?_
  refine Ol.p mvi ?_
  refine Ol.p mvs ?_
  refine Ol.p (lens sl_L_L_uint64) ?_
  refine Ol.p lsi ?_
  refine Ol.nil ?_
  refine Cd.cond rfl (fun h => absurd h (by decide)) (fun _ => ?_)
  refine Cd.exit (id := 0) ?_
  refine Cd.seq ?_
  refine Cd.region ?_
  refine Ol.p mvs ?_
  refine Ol.p (lens sl_L_L_uint64) ?_
  refine Ol.x (mks (n := 0) (c := 0) sl_L_L_uint64 zr_L_uint64) ?_
  rintro _ _ ⟨gm, rfl, rfl⟩
  refine Ol.p ass ?_
  refine Ol.nil ?_
  obtain ⟨VG, hVG⟩ : ∃ V, V = Value.slice (some ⟨gm, 0, none⟩) 0 0 := ⟨_, rfl⟩
  rw [← hVG]
  obtain ⟨LG, hLG⟩ : ∃ LG : List Res, LG = [row VG 188 1 0 ((madeCells (Value.slice none 0 0).cells (0 * 1)).toList.take (0 * 1))] := ⟨_, rfl⟩
  rw [← hLG]
  refine Cd.seq ?_
  refine Cd.seq ?_
  refine Cd.region ?_
  refine Ol.p asi ?_
  refine Ol.nil ?_
  refine Cd.block ?_
  refine Cd.loop (fun m σ L => Has σ [(0, .slice none 0 0), (5, VG), (6, .int .i64 0)] ∧ LG = L) (n := 0) ⟨⟨rfl, rfl, rfl, trivial⟩, rfl⟩ ?_
  rintro _ σ L ⟨hs, rfl⟩
  refine Cd.has hs ?_
  clear hs
  refine Cd.seq ?_
  refine Cd.seq ?_
  refine Cd.region ?_
  refine Ol.p mvi ?_
  refine Ol.p mvs ?_
  refine Ol.p (lens sl_L_L_uint64) ?_
  refine Ol.p lsi ?_
  refine Ol.nil ?_
  refine Cd.cond rfl (fun h => absurd h (by decide)) (fun _ => ?_)
  refine Cd.exit (id := 4) ?_
  refine Cd.seq ?_
  refine Cd.seq ?_
  refine Cd.region ?_
  refine Ol.p asi ?_
  refine Ol.nil ?_
  refine Cd.block ?_
  refine Cd.loop (fun m σ L => Has σ [(0, .slice none 0 0), (5, VG), (9, .int .i64 0)] ∧ LG = L) (n := 0) ⟨⟨rfl, rfl, rfl, trivial⟩, rfl⟩ ?_
  rintro _ σ L ⟨hs, rfl⟩
  refine Cd.has hs ?_
  clear hs
  refine Cd.seq ?_
  refine Cd.seq ?_
  refine Cd.region ?_
  refine Ol.p mvi ?_
  refine Ol.p mvs ?_
  refine Ol.p (lens sl_L_L_uint64) ?_
  refine Ol.p lsi ?_
  refine Ol.nil ?_
  refine Cd.cond rfl (fun h => absurd h (by decide)) (fun _ => ?_)
  refine Cd.exit (id := 8) ?_
  refine Cd.seq ?_
  refine Cd.seq ?_
  refine Cd.region ?_
  refine Ol.p asi ?_
  refine Ol.nil ?_
  refine Cd.block ?_
  refine Cd.loop (fun m σ L => Has σ [(0, .slice none 0 0), (5, VG), (11, .int .i64 0)] ∧ LG = L) (n := 0) ⟨⟨rfl, rfl, rfl, trivial⟩, rfl⟩ ?_
  rintro _ σ L ⟨hs, rfl⟩
  refine Cd.has hs ?_
  clear hs
  refine Cd.seq ?_
  refine Cd.seq ?_
  refine Cd.region ?_
  refine Ol.p mvi ?_
  refine Ol.p mvs ?_
  refine Ol.p (lens sl_L_L_uint64) ?_
  refine Ol.p lsi ?_
  refine Ol.nil ?_
  refine Cd.cond rfl (fun h => absurd h (by decide)) (fun _ => ?_)
  refine Cd.exit (id := 12) ?_
  refine Cd.seq ?_
  refine Cd.seq ?_
  refine Cd.region ?_
  refine Ol.p asi ?_
  refine Ol.nil ?_
  refine Cd.block ?_
  refine Cd.loop (fun m σ L => Has σ [(0, .slice none 0 0), (5, VG), (14, .int .i64 0)] ∧ LG = L) (n := 0) ⟨⟨rfl, rfl, rfl, trivial⟩, rfl⟩ ?_
  rintro _ σ L ⟨hs, rfl⟩
  refine Cd.has hs ?_
  clear hs
  refine Cd.seq ?_
  refine Cd.seq ?_
  refine Cd.region ?_
  refine Ol.p mvi ?_
  refine Ol.p mvs ?_
  refine Ol.p (lens sl_L_L_uint64) ?_
  refine Ol.p lsi ?_
  refine Ol.nil ?_
  refine Cd.cond rfl (fun h => absurd h (by decide)) (fun _ => ?_)
  refine Cd.exit (id := 16) ?_
  refine Cd.seq ?_
  refine Cd.region ?_
  refine Ol.p asb ?_
  refine Ol.nil ?_
  exact Cd.ret ⟨.bool true, ret1 rfl rfl, [], Keep.nil, rfl, rfl⟩
theorem kit_flatLongs_nil {w : World} : Ct Tryz.prog 112 #[.slice none 0 0] w (Is (.bool true)) := by
  refine Ct.mk Tryz.func112 rfl rfl ?_
  refine Cd.seq ?_
  refine Cd.region ?_
  refine Ol.p asb ?_
  refine Ol.nil ?_
  refine Cd.seq ?_
  refine Cd.seq ?_
  refine Cd.region ?_
  refine Ol.p asi ?_
  refine Ol.nil ?_
  refine Cd.block ?_
  refine Cd.loop (fun m σ L => Has σ [(0, .slice none 0 0), (3, .int .i64 0)] ∧ [] = L) (n := 0) ⟨⟨rfl, rfl, trivial⟩, rfl⟩ ?_
  rintro _ σ L ⟨hs, rfl⟩
  refine Cd.has hs ?_
  clear hs
  refine Cd.seq ?_
  refine Cd.seq ?_
  refine Cd.region ?_
  refine Ol.p mvi ?_
  refine Ol.p mvs ?_
  refine Ol.p (lens sl_L_L_int64) ?_
  refine Ol.p lsi ?_
  refine Ol.nil ?_
  refine Cd.cond rfl (fun h => absurd h (by decide)) (fun _ => ?_)
  refine Cd.exit (id := 0) ?_
  refine Cd.seq ?_
  refine Cd.region ?_
  refine Ol.p mvs ?_
  refine Ol.p (lens sl_L_L_int64) ?_
  refine Ol.x (mks (n := 0) (c := 0) sl_L_L_int64 zr_L_int64) ?_
  rintro _ _ ⟨gm, rfl, rfl⟩
  refine Ol.p ass ?_
  refine Ol.nil ?_
  obtain ⟨VG, hVG⟩ : ∃ V, V = Value.slice (some ⟨gm, 0, none⟩) 0 0 := ⟨_, rfl⟩
  rw [← hVG]
  obtain ⟨LG, hLG⟩ : ∃ LG : List Res, LG = [row VG 190 1 0 ((madeCells (Value.slice none 0 0).cells (0 * 1)).toList.take (0 * 1))] := ⟨_, rfl⟩
  rw [← hLG]
  refine Cd.seq ?_
  refine Cd.seq ?_
  refine Cd.region ?_
  refine Ol.p asi ?_
  refine Ol.nil ?_
  refine Cd.block ?_
  refine Cd.loop (fun m σ L => Has σ [(0, .slice none 0 0), (5, VG), (6, .int .i64 0)] ∧ LG = L) (n := 0) ⟨⟨rfl, rfl, rfl, trivial⟩, rfl⟩ ?_
  rintro _ σ L ⟨hs, rfl⟩
  refine Cd.has hs ?_
  clear hs
  refine Cd.seq ?_
  refine Cd.seq ?_
  refine Cd.region ?_
  refine Ol.p mvi ?_
  refine Ol.p mvs ?_
  refine Ol.p (lens sl_L_L_int64) ?_
  refine Ol.p lsi ?_
  refine Ol.nil ?_
  refine Cd.cond rfl (fun h => absurd h (by decide)) (fun _ => ?_)
  refine Cd.exit (id := 4) ?_
  refine Cd.seq ?_
  refine Cd.seq ?_
  refine Cd.region ?_
  refine Ol.p asi ?_
  refine Ol.nil ?_
  refine Cd.block ?_
  refine Cd.loop (fun m σ L => Has σ [(0, .slice none 0 0), (5, VG), (9, .int .i64 0)] ∧ LG = L) (n := 0) ⟨⟨rfl, rfl, rfl, trivial⟩, rfl⟩ ?_
  rintro _ σ L ⟨hs, rfl⟩
  refine Cd.has hs ?_
  clear hs
  refine Cd.seq ?_
  refine Cd.seq ?_
  refine Cd.region ?_
  refine Ol.p mvi ?_
  refine Ol.p mvs ?_
  refine Ol.p (lens sl_L_L_int64) ?_
  refine Ol.p lsi ?_
  refine Ol.nil ?_
  refine Cd.cond rfl (fun h => absurd h (by decide)) (fun _ => ?_)
  refine Cd.exit (id := 8) ?_
  refine Cd.seq ?_
  refine Cd.seq ?_
  refine Cd.region ?_
  refine Ol.p asi ?_
  refine Ol.nil ?_
  refine Cd.block ?_
  refine Cd.loop (fun m σ L => Has σ [(0, .slice none 0 0), (5, VG), (11, .int .i64 0)] ∧ LG = L) (n := 0) ⟨⟨rfl, rfl, rfl, trivial⟩, rfl⟩ ?_
  rintro _ σ L ⟨hs, rfl⟩
  refine Cd.has hs ?_
  clear hs
  refine Cd.seq ?_
  refine Cd.seq ?_
  refine Cd.region ?_
  refine Ol.p mvi ?_
  refine Ol.p mvs ?_
  refine Ol.p (lens sl_L_L_int64) ?_
  refine Ol.p lsi ?_
  refine Ol.nil ?_
  refine Cd.cond rfl (fun h => absurd h (by decide)) (fun _ => ?_)
  refine Cd.exit (id := 12) ?_
  refine Cd.seq ?_
  refine Cd.seq ?_
  refine Cd.region ?_
  refine Ol.p asi ?_
  refine Ol.nil ?_
  refine Cd.block ?_
  refine Cd.loop (fun m σ L => Has σ [(0, .slice none 0 0), (5, VG), (14, .int .i64 0)] ∧ LG = L) (n := 0) ⟨⟨rfl, rfl, rfl, trivial⟩, rfl⟩ ?_
  rintro _ σ L ⟨hs, rfl⟩
  refine Cd.has hs ?_
  clear hs
  refine Cd.seq ?_
  refine Cd.seq ?_
  refine Cd.region ?_
  refine Ol.p mvi ?_
  refine Ol.p mvs ?_
  refine Ol.p (lens sl_L_L_int64) ?_
  refine Ol.p lsi ?_
  refine Ol.nil ?_
  refine Cd.cond rfl (fun h => absurd h (by decide)) (fun _ => ?_)
  refine Cd.exit (id := 16) ?_
  refine Cd.seq ?_
  refine Cd.region ?_
  refine Ol.p asb ?_
  refine Ol.nil ?_
  exact Cd.ret ⟨.bool true, ret1 rfl rfl, [], Keep.nil, rfl, rfl⟩
theorem kit_flatTexts_nil {w : World} : Ct Tryz.prog 113 #[.slice none 0 0] w (Is (.bool true)) := by
  refine Ct.mk Tryz.func113 rfl rfl ?_
  refine Cd.seq ?_
  refine Cd.region ?_
  refine Ol.p asb ?_
  refine Ol.nil ?_
  refine Cd.seq ?_
  refine Cd.seq ?_
  refine Cd.region ?_
  refine Ol.p asi ?_
  refine Ol.nil ?_
  refine Cd.block ?_
  refine Cd.loop (fun m σ L => Has σ [(0, .slice none 0 0), (3, .int .i64 0)] ∧ [] = L) (n := 0) ⟨⟨rfl, rfl, trivial⟩, rfl⟩ ?_
  rintro _ σ L ⟨hs, rfl⟩
  refine Cd.has hs ?_
  clear hs
  refine Cd.seq ?_
  refine Cd.seq ?_
  refine Cd.region ?_
  refine Ol.p mvi ?_
  refine Ol.p mvs ?_
  refine Ol.p (lens sl_L_L_string) ?_
  refine Ol.p lsi ?_
  refine Ol.nil ?_
  refine Cd.cond rfl (fun h => absurd h (by decide)) (fun _ => ?_)
  refine Cd.exit (id := 0) ?_
  refine Cd.seq ?_
  refine Cd.region ?_
  refine Ol.p mvs ?_
  refine Ol.p (lens sl_L_L_string) ?_
  refine Ol.x (mks (n := 0) (c := 0) sl_L_L_string zr_L_string) ?_
  rintro _ _ ⟨gm, rfl, rfl⟩
  refine Ol.p ass ?_
  refine Ol.nil ?_
  obtain ⟨VG, hVG⟩ : ∃ V, V = Value.slice (some ⟨gm, 0, none⟩) 0 0 := ⟨_, rfl⟩
  rw [← hVG]
  obtain ⟨LG, hLG⟩ : ∃ LG : List Res, LG = [row VG 191 1 0 ((madeCells (Value.slice none 0 0).cells (0 * 1)).toList.take (0 * 1))] := ⟨_, rfl⟩
  rw [← hLG]
  refine Cd.seq ?_
  refine Cd.seq ?_
  refine Cd.region ?_
  refine Ol.p asi ?_
  refine Ol.nil ?_
  refine Cd.block ?_
  refine Cd.loop (fun m σ L => Has σ [(0, .slice none 0 0), (5, VG), (6, .int .i64 0)] ∧ LG = L) (n := 0) ⟨⟨rfl, rfl, rfl, trivial⟩, rfl⟩ ?_
  rintro _ σ L ⟨hs, rfl⟩
  refine Cd.has hs ?_
  clear hs
  refine Cd.seq ?_
  refine Cd.seq ?_
  refine Cd.region ?_
  refine Ol.p mvi ?_
  refine Ol.p mvs ?_
  refine Ol.p (lens sl_L_L_string) ?_
  refine Ol.p lsi ?_
  refine Ol.nil ?_
  refine Cd.cond rfl (fun h => absurd h (by decide)) (fun _ => ?_)
  refine Cd.exit (id := 4) ?_
  refine Cd.seq ?_
  refine Cd.seq ?_
  refine Cd.region ?_
  refine Ol.p asi ?_
  refine Ol.nil ?_
  refine Cd.block ?_
  refine Cd.loop (fun m σ L => Has σ [(0, .slice none 0 0), (5, VG), (9, .int .i64 0)] ∧ LG = L) (n := 0) ⟨⟨rfl, rfl, rfl, trivial⟩, rfl⟩ ?_
  rintro _ σ L ⟨hs, rfl⟩
  refine Cd.has hs ?_
  clear hs
  refine Cd.seq ?_
  refine Cd.seq ?_
  refine Cd.region ?_
  refine Ol.p mvi ?_
  refine Ol.p mvs ?_
  refine Ol.p (lens sl_L_L_string) ?_
  refine Ol.p lsi ?_
  refine Ol.nil ?_
  refine Cd.cond rfl (fun h => absurd h (by decide)) (fun _ => ?_)
  refine Cd.exit (id := 8) ?_
  refine Cd.seq ?_
  refine Cd.seq ?_
  refine Cd.region ?_
  refine Ol.p asi ?_
  refine Ol.nil ?_
  refine Cd.block ?_
  refine Cd.loop (fun m σ L => Has σ [(0, .slice none 0 0), (5, VG), (11, .int .i64 0)] ∧ LG = L) (n := 0) ⟨⟨rfl, rfl, rfl, trivial⟩, rfl⟩ ?_
  rintro _ σ L ⟨hs, rfl⟩
  refine Cd.has hs ?_
  clear hs
  refine Cd.seq ?_
  refine Cd.seq ?_
  refine Cd.region ?_
  refine Ol.p mvi ?_
  refine Ol.p mvs ?_
  refine Ol.p (lens sl_L_L_string) ?_
  refine Ol.p lsi ?_
  refine Ol.nil ?_
  refine Cd.cond rfl (fun h => absurd h (by decide)) (fun _ => ?_)
  refine Cd.exit (id := 12) ?_
  refine Cd.seq ?_
  refine Cd.seq ?_
  refine Cd.region ?_
  refine Ol.p asi ?_
  refine Ol.nil ?_
  refine Cd.block ?_
  refine Cd.loop (fun m σ L => Has σ [(0, .slice none 0 0), (5, VG), (14, .int .i64 0)] ∧ LG = L) (n := 0) ⟨⟨rfl, rfl, rfl, trivial⟩, rfl⟩ ?_
  rintro _ σ L ⟨hs, rfl⟩
  refine Cd.has hs ?_
  clear hs
  refine Cd.seq ?_
  refine Cd.seq ?_
  refine Cd.region ?_
  refine Ol.p mvi ?_
  refine Ol.p mvs ?_
  refine Ol.p (lens sl_L_L_string) ?_
  refine Ol.p lsi ?_
  refine Ol.nil ?_
  refine Cd.cond rfl (fun h => absurd h (by decide)) (fun _ => ?_)
  refine Cd.exit (id := 16) ?_
  refine Cd.seq ?_
  refine Cd.region ?_
  refine Ol.p asb ?_
  refine Ol.nil ?_
  exact Cd.ret ⟨.bool true, ret1 rfl rfl, [], Keep.nil, rfl, rfl⟩
theorem kit_flatBytes_nil {w : World} : Ct Tryz.prog 114 #[.slice none 0 0] w (Is (.bool true)) := by
  refine Ct.mk Tryz.func114 rfl rfl ?_
  refine Cd.seq ?_
  refine Cd.region ?_
  refine Ol.p asb ?_
  refine Ol.nil ?_
  refine Cd.seq ?_
  refine Cd.seq ?_
  refine Cd.region ?_
  refine Ol.p asi ?_
  refine Ol.nil ?_
  refine Cd.block ?_
  refine Cd.loop (fun m σ L => Has σ [(0, .slice none 0 0), (3, .int .i64 0)] ∧ [] = L) (n := 0) ⟨⟨rfl, rfl, trivial⟩, rfl⟩ ?_
  rintro _ σ L ⟨hs, rfl⟩
  refine Cd.has hs ?_
  clear hs
  refine Cd.seq ?_
  refine Cd.seq ?_
  refine Cd.region ?_
  refine Ol.p mvi ?_
  refine Ol.p mvs ?_
  refine Ol.p (lens sl_L_L_uint8) ?_
  refine Ol.p lsi ?_
  refine Ol.nil ?_
  refine Cd.cond rfl (fun h => absurd h (by decide)) (fun _ => ?_)
  refine Cd.exit (id := 0) ?_
  refine Cd.seq ?_
  refine Cd.region ?_
  refine Ol.p mvs ?_
  refine Ol.p (lens sl_L_L_uint8) ?_
  refine Ol.x (mks (n := 0) (c := 0) sl_L_L_uint8 zr_L_uint8) ?_
  rintro _ _ ⟨gm, rfl, rfl⟩
  refine Ol.p ass ?_
  refine Ol.nil ?_
  obtain ⟨VG, hVG⟩ : ∃ V, V = Value.slice (some ⟨gm, 0, none⟩) 0 0 := ⟨_, rfl⟩
  rw [← hVG]
  obtain ⟨LG, hLG⟩ : ∃ LG : List Res, LG = [row VG 193 1 0 ((madeCells (Value.slice none 0 0).cells (0 * 1)).toList.take (0 * 1))] := ⟨_, rfl⟩
  rw [← hLG]
  refine Cd.seq ?_
  refine Cd.seq ?_
  refine Cd.region ?_
  refine Ol.p asi ?_
  refine Ol.nil ?_
  refine Cd.block ?_
  refine Cd.loop (fun m σ L => Has σ [(0, .slice none 0 0), (5, VG), (6, .int .i64 0)] ∧ LG = L) (n := 0) ⟨⟨rfl, rfl, rfl, trivial⟩, rfl⟩ ?_
  rintro _ σ L ⟨hs, rfl⟩
  refine Cd.has hs ?_
  clear hs
  refine Cd.seq ?_
  refine Cd.seq ?_
  refine Cd.region ?_
  refine Ol.p mvi ?_
  refine Ol.p mvs ?_
  refine Ol.p (lens sl_L_L_uint8) ?_
  refine Ol.p lsi ?_
  refine Ol.nil ?_
  refine Cd.cond rfl (fun h => absurd h (by decide)) (fun _ => ?_)
  refine Cd.exit (id := 4) ?_
  refine Cd.seq ?_
  refine Cd.seq ?_
  refine Cd.region ?_
  refine Ol.p asi ?_
  refine Ol.nil ?_
  refine Cd.block ?_
  refine Cd.loop (fun m σ L => Has σ [(0, .slice none 0 0), (5, VG), (9, .int .i64 0)] ∧ LG = L) (n := 0) ⟨⟨rfl, rfl, rfl, trivial⟩, rfl⟩ ?_
  rintro _ σ L ⟨hs, rfl⟩
  refine Cd.has hs ?_
  clear hs
  refine Cd.seq ?_
  refine Cd.seq ?_
  refine Cd.region ?_
  refine Ol.p mvi ?_
  refine Ol.p mvs ?_
  refine Ol.p (lens sl_L_L_uint8) ?_
  refine Ol.p lsi ?_
  refine Ol.nil ?_
  refine Cd.cond rfl (fun h => absurd h (by decide)) (fun _ => ?_)
  refine Cd.exit (id := 8) ?_
  refine Cd.seq ?_
  refine Cd.seq ?_
  refine Cd.region ?_
  refine Ol.p asi ?_
  refine Ol.nil ?_
  refine Cd.block ?_
  refine Cd.loop (fun m σ L => Has σ [(0, .slice none 0 0), (5, VG), (11, .int .i64 0)] ∧ LG = L) (n := 0) ⟨⟨rfl, rfl, rfl, trivial⟩, rfl⟩ ?_
  rintro _ σ L ⟨hs, rfl⟩
  refine Cd.has hs ?_
  clear hs
  refine Cd.seq ?_
  refine Cd.seq ?_
  refine Cd.region ?_
  refine Ol.p mvi ?_
  refine Ol.p mvs ?_
  refine Ol.p (lens sl_L_L_uint8) ?_
  refine Ol.p lsi ?_
  refine Ol.nil ?_
  refine Cd.cond rfl (fun h => absurd h (by decide)) (fun _ => ?_)
  refine Cd.exit (id := 12) ?_
  refine Cd.seq ?_
  refine Cd.seq ?_
  refine Cd.region ?_
  refine Ol.p asi ?_
  refine Ol.nil ?_
  refine Cd.block ?_
  refine Cd.loop (fun m σ L => Has σ [(0, .slice none 0 0), (5, VG), (14, .int .i64 0)] ∧ LG = L) (n := 0) ⟨⟨rfl, rfl, rfl, trivial⟩, rfl⟩ ?_
  rintro _ σ L ⟨hs, rfl⟩
  refine Cd.has hs ?_
  clear hs
  refine Cd.seq ?_
  refine Cd.seq ?_
  refine Cd.region ?_
  refine Ol.p mvi ?_
  refine Ol.p mvs ?_
  refine Ol.p (lens sl_L_L_uint8) ?_
  refine Ol.p lsi ?_
  refine Ol.nil ?_
  refine Cd.cond rfl (fun h => absurd h (by decide)) (fun _ => ?_)
  refine Cd.exit (id := 16) ?_
  refine Cd.seq ?_
  refine Cd.region ?_
  refine Ol.p asb ?_
  refine Ol.nil ?_
  exact Cd.ret ⟨.bool true, ret1 rfl rfl, [], Keep.nil, rfl, rfl⟩
theorem kit_flatTruths_nil {w : World} : Ct Tryz.prog 115 #[.slice none 0 0] w (Is (.bool true)) := by
  refine Ct.mk Tryz.func115 rfl rfl ?_
  refine Cd.seq ?_
  refine Cd.region ?_
  refine Ol.p asb ?_
  refine Ol.nil ?_
  refine Cd.seq ?_
  refine Cd.seq ?_
  refine Cd.region ?_
  refine Ol.p asi ?_
  refine Ol.nil ?_
  refine Cd.block ?_
  refine Cd.loop (fun m σ L => Has σ [(0, .slice none 0 0), (3, .int .i64 0)] ∧ [] = L) (n := 0) ⟨⟨rfl, rfl, trivial⟩, rfl⟩ ?_
  rintro _ σ L ⟨hs, rfl⟩
  refine Cd.has hs ?_
  clear hs
  refine Cd.seq ?_
  refine Cd.seq ?_
  refine Cd.region ?_
  refine Ol.p mvi ?_
  refine Ol.p mvs ?_
  refine Ol.p (lens sl_L_L_bool) ?_
  refine Ol.p lsi ?_
  refine Ol.nil ?_
  refine Cd.cond rfl (fun h => absurd h (by decide)) (fun _ => ?_)
  refine Cd.exit (id := 0) ?_
  refine Cd.seq ?_
  refine Cd.region ?_
  refine Ol.p mvs ?_
  refine Ol.p (lens sl_L_L_bool) ?_
  refine Ol.x (mks (n := 0) (c := 0) sl_L_L_bool zr_L_bool) ?_
  rintro _ _ ⟨gm, rfl, rfl⟩
  refine Ol.p ass ?_
  refine Ol.nil ?_
  obtain ⟨VG, hVG⟩ : ∃ V, V = Value.slice (some ⟨gm, 0, none⟩) 0 0 := ⟨_, rfl⟩
  rw [← hVG]
  obtain ⟨LG, hLG⟩ : ∃ LG : List Res, LG = [row VG 141 1 0 ((madeCells (Value.slice none 0 0).cells (0 * 1)).toList.take (0 * 1))] := ⟨_, rfl⟩
  rw [← hLG]
  refine Cd.seq ?_
  refine Cd.seq ?_
  refine Cd.region ?_
  refine Ol.p asi ?_
  refine Ol.nil ?_
  refine Cd.block ?_
  refine Cd.loop (fun m σ L => Has σ [(0, .slice none 0 0), (5, VG), (6, .int .i64 0)] ∧ LG = L) (n := 0) ⟨⟨rfl, rfl, rfl, trivial⟩, rfl⟩ ?_
  rintro _ σ L ⟨hs, rfl⟩
  refine Cd.has hs ?_
  clear hs
  refine Cd.seq ?_
  refine Cd.seq ?_
  refine Cd.region ?_
  refine Ol.p mvi ?_
  refine Ol.p mvs ?_
  refine Ol.p (lens sl_L_L_bool) ?_
  refine Ol.p lsi ?_
  refine Ol.nil ?_
  refine Cd.cond rfl (fun h => absurd h (by decide)) (fun _ => ?_)
  refine Cd.exit (id := 4) ?_
  refine Cd.seq ?_
  refine Cd.seq ?_
  refine Cd.region ?_
  refine Ol.p asi ?_
  refine Ol.nil ?_
  refine Cd.block ?_
  refine Cd.loop (fun m σ L => Has σ [(0, .slice none 0 0), (5, VG), (9, .int .i64 0)] ∧ LG = L) (n := 0) ⟨⟨rfl, rfl, rfl, trivial⟩, rfl⟩ ?_
  rintro _ σ L ⟨hs, rfl⟩
  refine Cd.has hs ?_
  clear hs
  refine Cd.seq ?_
  refine Cd.seq ?_
  refine Cd.region ?_
  refine Ol.p mvi ?_
  refine Ol.p mvs ?_
  refine Ol.p (lens sl_L_L_bool) ?_
  refine Ol.p lsi ?_
  refine Ol.nil ?_
  refine Cd.cond rfl (fun h => absurd h (by decide)) (fun _ => ?_)
  refine Cd.exit (id := 8) ?_
  refine Cd.seq ?_
  refine Cd.seq ?_
  refine Cd.region ?_
  refine Ol.p asi ?_
  refine Ol.nil ?_
  refine Cd.block ?_
  refine Cd.loop (fun m σ L => Has σ [(0, .slice none 0 0), (5, VG), (11, .int .i64 0)] ∧ LG = L) (n := 0) ⟨⟨rfl, rfl, rfl, trivial⟩, rfl⟩ ?_
  rintro _ σ L ⟨hs, rfl⟩
  refine Cd.has hs ?_
  clear hs
  refine Cd.seq ?_
  refine Cd.seq ?_
  refine Cd.region ?_
  refine Ol.p mvi ?_
  refine Ol.p mvs ?_
  refine Ol.p (lens sl_L_L_bool) ?_
  refine Ol.p lsi ?_
  refine Ol.nil ?_
  refine Cd.cond rfl (fun h => absurd h (by decide)) (fun _ => ?_)
  refine Cd.exit (id := 12) ?_
  refine Cd.seq ?_
  refine Cd.seq ?_
  refine Cd.region ?_
  refine Ol.p asi ?_
  refine Ol.nil ?_
  refine Cd.block ?_
  refine Cd.loop (fun m σ L => Has σ [(0, .slice none 0 0), (5, VG), (14, .int .i64 0)] ∧ LG = L) (n := 0) ⟨⟨rfl, rfl, rfl, trivial⟩, rfl⟩ ?_
  rintro _ σ L ⟨hs, rfl⟩
  refine Cd.has hs ?_
  clear hs
  refine Cd.seq ?_
  refine Cd.seq ?_
  refine Cd.region ?_
  refine Ol.p mvi ?_
  refine Ol.p mvs ?_
  refine Ol.p (lens sl_L_L_bool) ?_
  refine Ol.p lsi ?_
  refine Ol.nil ?_
  refine Cd.cond rfl (fun h => absurd h (by decide)) (fun _ => ?_)
  refine Cd.exit (id := 16) ?_
  refine Cd.seq ?_
  refine Cd.region ?_
  refine Ol.p asb ?_
  refine Ol.nil ?_
  exact Cd.ret ⟨.bool true, ret1 rfl rfl, [], Keep.nil, rfl, rfl⟩
theorem kit_flatRow_nil {w : World} : Ct Tryz.prog 116 #[.slice none 0 0] w (Is (.bool true)) := by
  refine Ct.mk Tryz.func116 rfl rfl ?_
  refine Cd.seq ?_
  refine Cd.region ?_
  refine Ol.p asb ?_
  refine Ol.nil ?_
  refine Cd.seq ?_
  refine Cd.seq ?_
  refine Cd.region ?_
  refine Ol.p asi ?_
  refine Ol.nil ?_
  refine Cd.block ?_
  refine Cd.loop (fun m σ L => Has σ [(0, .slice none 0 0), (3, .int .i64 0)] ∧ [] = L) (n := 0) ⟨⟨rfl, rfl, trivial⟩, rfl⟩ ?_
  rintro _ σ L ⟨hs, rfl⟩
  refine Cd.has hs ?_
  clear hs
  refine Cd.seq ?_
  refine Cd.seq ?_
  refine Cd.region ?_
  refine Ol.p mvi ?_
  refine Ol.p mvs ?_
  refine Ol.p (lens sl_L_L_api_Ins) ?_
  refine Ol.p lsi ?_
  refine Ol.nil ?_
  refine Cd.cond rfl (fun h => absurd h (by decide)) (fun _ => ?_)
  refine Cd.exit (id := 0) ?_
  refine Cd.seq ?_
  refine Cd.region ?_
  refine Ol.p mvs ?_
  refine Ol.p (lens sl_L_L_api_Ins) ?_
  refine Ol.x (mks (n := 0) (c := 0) sl_L_L_api_Ins zr_L_api_Ins) ?_
  rintro _ _ ⟨gm, rfl, rfl⟩
  refine Ol.p ass ?_
  refine Ol.nil ?_
  obtain ⟨VG, hVG⟩ : ∃ V, V = Value.slice (some ⟨gm, 0, none⟩) 0 0 := ⟨_, rfl⟩
  rw [← hVG]
  obtain ⟨LG, hLG⟩ : ∃ LG : List Res, LG = [row VG 32 1 0 ((madeCells (Value.slice none 0 0).cells (0 * 1)).toList.take (0 * 1))] := ⟨_, rfl⟩
  rw [← hLG]
  refine Cd.seq ?_
  refine Cd.seq ?_
  refine Cd.region ?_
  refine Ol.p asi ?_
  refine Ol.nil ?_
  refine Cd.block ?_
  refine Cd.loop (fun m σ L => Has σ [(0, .slice none 0 0), (5, VG), (6, .int .i64 0)] ∧ LG = L) (n := 0) ⟨⟨rfl, rfl, rfl, trivial⟩, rfl⟩ ?_
  rintro _ σ L ⟨hs, rfl⟩
  refine Cd.has hs ?_
  clear hs
  refine Cd.seq ?_
  refine Cd.seq ?_
  refine Cd.region ?_
  refine Ol.p mvi ?_
  refine Ol.p mvs ?_
  refine Ol.p (lens sl_L_L_api_Ins) ?_
  refine Ol.p lsi ?_
  refine Ol.nil ?_
  refine Cd.cond rfl (fun h => absurd h (by decide)) (fun _ => ?_)
  refine Cd.exit (id := 4) ?_
  refine Cd.seq ?_
  refine Cd.seq ?_
  refine Cd.region ?_
  refine Ol.p asi ?_
  refine Ol.nil ?_
  refine Cd.block ?_
  refine Cd.loop (fun m σ L => Has σ [(0, .slice none 0 0), (5, VG), (9, .int .i64 0)] ∧ LG = L) (n := 0) ⟨⟨rfl, rfl, rfl, trivial⟩, rfl⟩ ?_
  rintro _ σ L ⟨hs, rfl⟩
  refine Cd.has hs ?_
  clear hs
  refine Cd.seq ?_
  refine Cd.seq ?_
  refine Cd.region ?_
  refine Ol.p mvi ?_
  refine Ol.p mvs ?_
  refine Ol.p (lens sl_L_L_api_Ins) ?_
  refine Ol.p lsi ?_
  refine Ol.nil ?_
  refine Cd.cond rfl (fun h => absurd h (by decide)) (fun _ => ?_)
  refine Cd.exit (id := 8) ?_
  refine Cd.seq ?_
  refine Cd.seq ?_
  refine Cd.region ?_
  refine Ol.p asi ?_
  refine Ol.nil ?_
  refine Cd.block ?_
  refine Cd.loop (fun m σ L => Has σ [(0, .slice none 0 0), (5, VG), (11, .int .i64 0)] ∧ LG = L) (n := 0) ⟨⟨rfl, rfl, rfl, trivial⟩, rfl⟩ ?_
  rintro _ σ L ⟨hs, rfl⟩
  refine Cd.has hs ?_
  clear hs
  refine Cd.seq ?_
  refine Cd.seq ?_
  refine Cd.region ?_
  refine Ol.p mvi ?_
  refine Ol.p mvs ?_
  refine Ol.p (lens sl_L_L_api_Ins) ?_
  refine Ol.p lsi ?_
  refine Ol.nil ?_
  refine Cd.cond rfl (fun h => absurd h (by decide)) (fun _ => ?_)
  refine Cd.exit (id := 12) ?_
  refine Cd.seq ?_
  refine Cd.seq ?_
  refine Cd.region ?_
  refine Ol.p asi ?_
  refine Ol.nil ?_
  refine Cd.block ?_
  refine Cd.loop (fun m σ L => Has σ [(0, .slice none 0 0), (5, VG), (14, .int .i64 0)] ∧ LG = L) (n := 0) ⟨⟨rfl, rfl, rfl, trivial⟩, rfl⟩ ?_
  rintro _ σ L ⟨hs, rfl⟩
  refine Cd.has hs ?_
  clear hs
  refine Cd.seq ?_
  refine Cd.seq ?_
  refine Cd.region ?_
  refine Ol.p mvi ?_
  refine Ol.p mvs ?_
  refine Ol.p (lens sl_L_L_api_Ins) ?_
  refine Ol.p lsi ?_
  refine Ol.nil ?_
  refine Cd.cond rfl (fun h => absurd h (by decide)) (fun _ => ?_)
  refine Cd.exit (id := 16) ?_
  refine Cd.seq ?_
  refine Cd.region ?_
  refine Ol.p asb ?_
  refine Ol.nil ?_
  exact Cd.ret ⟨.bool true, ret1 rfl rfl, [], Keep.nil, rfl, rfl⟩
theorem kit_flatBlocks_nil {w : World} : Ct Tryz.prog 117 #[.slice none 0 0] w (Is (.bool true)) := by
  refine Ct.mk Tryz.func117 rfl rfl ?_
  refine Cd.seq ?_
  refine Cd.region ?_
  refine Ol.p asb ?_
  refine Ol.nil ?_
  refine Cd.seq ?_
  refine Cd.seq ?_
  refine Cd.region ?_
  refine Ol.p asi ?_
  refine Ol.nil ?_
  refine Cd.block ?_
  refine Cd.loop (fun m σ L => Has σ [(0, .slice none 0 0), (3, .int .i64 0)] ∧ [] = L) (n := 0) ⟨⟨rfl, rfl, trivial⟩, rfl⟩ ?_
  rintro _ σ L ⟨hs, rfl⟩
  refine Cd.has hs ?_
  clear hs
  refine Cd.seq ?_
  refine Cd.seq ?_
  refine Cd.region ?_
  refine Ol.p mvi ?_
  refine Ol.p mvs ?_
  refine Ol.p (lens sl_L_L_api_Block) ?_
  refine Ol.p lsi ?_
  refine Ol.nil ?_
  refine Cd.cond rfl (fun h => absurd h (by decide)) (fun _ => ?_)
  refine Cd.exit (id := 0) ?_
  refine Cd.seq ?_
  refine Cd.region ?_
  refine Ol.p mvs ?_
  refine Ol.p (lens sl_L_L_api_Block) ?_
  refine Ol.x (mks (n := 0) (c := 0) sl_L_L_api_Block zr_L_api_Block) ?_
  rintro _ _ ⟨gm, rfl, rfl⟩
  refine Ol.p ass ?_
  refine Ol.nil ?_
  obtain ⟨VG, hVG⟩ : ∃ V, V = Value.slice (some ⟨gm, 0, none⟩) 0 0 := ⟨_, rfl⟩
  rw [← hVG]
  obtain ⟨LG, hLG⟩ : ∃ LG : List Res, LG = [row VG 35 1 0 ((madeCells (Value.slice none 0 0).cells (0 * 1)).toList.take (0 * 1))] := ⟨_, rfl⟩
  rw [← hLG]
  refine Cd.seq ?_
  refine Cd.seq ?_
  refine Cd.region ?_
  refine Ol.p asi ?_
  refine Ol.nil ?_
  refine Cd.block ?_
  refine Cd.loop (fun m σ L => Has σ [(0, .slice none 0 0), (5, VG), (6, .int .i64 0)] ∧ LG = L) (n := 0) ⟨⟨rfl, rfl, rfl, trivial⟩, rfl⟩ ?_
  rintro _ σ L ⟨hs, rfl⟩
  refine Cd.has hs ?_
  clear hs
  refine Cd.seq ?_
  refine Cd.seq ?_
  refine Cd.region ?_
  refine Ol.p mvi ?_
  refine Ol.p mvs ?_
  refine Ol.p (lens sl_L_L_api_Block) ?_
  refine Ol.p lsi ?_
  refine Ol.nil ?_
  refine Cd.cond rfl (fun h => absurd h (by decide)) (fun _ => ?_)
  refine Cd.exit (id := 4) ?_
  refine Cd.seq ?_
  refine Cd.seq ?_
  refine Cd.region ?_
  refine Ol.p asi ?_
  refine Ol.nil ?_
  refine Cd.block ?_
  refine Cd.loop (fun m σ L => Has σ [(0, .slice none 0 0), (5, VG), (9, .int .i64 0)] ∧ LG = L) (n := 0) ⟨⟨rfl, rfl, rfl, trivial⟩, rfl⟩ ?_
  rintro _ σ L ⟨hs, rfl⟩
  refine Cd.has hs ?_
  clear hs
  refine Cd.seq ?_
  refine Cd.seq ?_
  refine Cd.region ?_
  refine Ol.p mvi ?_
  refine Ol.p mvs ?_
  refine Ol.p (lens sl_L_L_api_Block) ?_
  refine Ol.p lsi ?_
  refine Ol.nil ?_
  refine Cd.cond rfl (fun h => absurd h (by decide)) (fun _ => ?_)
  refine Cd.exit (id := 8) ?_
  refine Cd.seq ?_
  refine Cd.seq ?_
  refine Cd.region ?_
  refine Ol.p asi ?_
  refine Ol.nil ?_
  refine Cd.block ?_
  refine Cd.loop (fun m σ L => Has σ [(0, .slice none 0 0), (5, VG), (11, .int .i64 0)] ∧ LG = L) (n := 0) ⟨⟨rfl, rfl, rfl, trivial⟩, rfl⟩ ?_
  rintro _ σ L ⟨hs, rfl⟩
  refine Cd.has hs ?_
  clear hs
  refine Cd.seq ?_
  refine Cd.seq ?_
  refine Cd.region ?_
  refine Ol.p mvi ?_
  refine Ol.p mvs ?_
  refine Ol.p (lens sl_L_L_api_Block) ?_
  refine Ol.p lsi ?_
  refine Ol.nil ?_
  refine Cd.cond rfl (fun h => absurd h (by decide)) (fun _ => ?_)
  refine Cd.exit (id := 12) ?_
  refine Cd.seq ?_
  refine Cd.seq ?_
  refine Cd.region ?_
  refine Ol.p asi ?_
  refine Ol.nil ?_
  refine Cd.block ?_
  refine Cd.loop (fun m σ L => Has σ [(0, .slice none 0 0), (5, VG), (14, .int .i64 0)] ∧ LG = L) (n := 0) ⟨⟨rfl, rfl, rfl, trivial⟩, rfl⟩ ?_
  rintro _ σ L ⟨hs, rfl⟩
  refine Cd.has hs ?_
  clear hs
  refine Cd.seq ?_
  refine Cd.seq ?_
  refine Cd.region ?_
  refine Ol.p mvi ?_
  refine Ol.p mvs ?_
  refine Ol.p (lens sl_L_L_api_Block) ?_
  refine Ol.p lsi ?_
  refine Ol.nil ?_
  refine Cd.cond rfl (fun h => absurd h (by decide)) (fun _ => ?_)
  refine Cd.exit (id := 16) ?_
  refine Cd.seq ?_
  refine Cd.region ?_
  refine Ol.p asb ?_
  refine Ol.nil ?_
  exact Cd.ret ⟨.bool true, ret1 rfl rfl, [], Keep.nil, rfl, rfl⟩
theorem kit_flatFuncs_nil {w : World} : Ct Tryz.prog 118 #[.slice none 0 0] w (Is (.bool true)) := by
  refine Ct.mk Tryz.func118 rfl rfl ?_
  refine Cd.seq ?_
  refine Cd.region ?_
  refine Ol.p asb ?_
  refine Ol.nil ?_
  refine Cd.seq ?_
  refine Cd.seq ?_
  refine Cd.region ?_
  refine Ol.p asi ?_
  refine Ol.nil ?_
  refine Cd.block ?_
  refine Cd.loop (fun m σ L => Has σ [(0, .slice none 0 0), (3, .int .i64 0)] ∧ [] = L) (n := 0) ⟨⟨rfl, rfl, trivial⟩, rfl⟩ ?_
  rintro _ σ L ⟨hs, rfl⟩
  refine Cd.has hs ?_
  clear hs
  refine Cd.seq ?_
  refine Cd.seq ?_
  refine Cd.region ?_
  refine Ol.p mvi ?_
  refine Ol.p mvs ?_
  refine Ol.p (lens sl_L_L_api_Func) ?_
  refine Ol.p lsi ?_
  refine Ol.nil ?_
  refine Cd.cond rfl (fun h => absurd h (by decide)) (fun _ => ?_)
  refine Cd.exit (id := 0) ?_
  refine Cd.seq ?_
  refine Cd.region ?_
  refine Ol.p mvs ?_
  refine Ol.p (lens sl_L_L_api_Func) ?_
  refine Ol.x (mks (n := 0) (c := 0) sl_L_L_api_Func zr_L_api_Func) ?_
  rintro _ _ ⟨gm, rfl, rfl⟩
  refine Ol.p ass ?_
  refine Ol.nil ?_
  obtain ⟨VG, hVG⟩ : ∃ V, V = Value.slice (some ⟨gm, 0, none⟩) 0 0 := ⟨_, rfl⟩
  rw [← hVG]
  obtain ⟨LG, hLG⟩ : ∃ LG : List Res, LG = [row VG 197 1 0 ((madeCells (Value.slice none 0 0).cells (0 * 1)).toList.take (0 * 1))] := ⟨_, rfl⟩
  rw [← hLG]
  refine Cd.seq ?_
  refine Cd.seq ?_
  refine Cd.region ?_
  refine Ol.p asi ?_
  refine Ol.nil ?_
  refine Cd.block ?_
  refine Cd.loop (fun m σ L => Has σ [(0, .slice none 0 0), (5, VG), (6, .int .i64 0)] ∧ LG = L) (n := 0) ⟨⟨rfl, rfl, rfl, trivial⟩, rfl⟩ ?_
  rintro _ σ L ⟨hs, rfl⟩
  refine Cd.has hs ?_
  clear hs
  refine Cd.seq ?_
  refine Cd.seq ?_
  refine Cd.region ?_
  refine Ol.p mvi ?_
  refine Ol.p mvs ?_
  refine Ol.p (lens sl_L_L_api_Func) ?_
  refine Ol.p lsi ?_
  refine Ol.nil ?_
  refine Cd.cond rfl (fun h => absurd h (by decide)) (fun _ => ?_)
  refine Cd.exit (id := 4) ?_
  refine Cd.seq ?_
  refine Cd.seq ?_
  refine Cd.region ?_
  refine Ol.p asi ?_
  refine Ol.nil ?_
  refine Cd.block ?_
  refine Cd.loop (fun m σ L => Has σ [(0, .slice none 0 0), (5, VG), (9, .int .i64 0)] ∧ LG = L) (n := 0) ⟨⟨rfl, rfl, rfl, trivial⟩, rfl⟩ ?_
  rintro _ σ L ⟨hs, rfl⟩
  refine Cd.has hs ?_
  clear hs
  refine Cd.seq ?_
  refine Cd.seq ?_
  refine Cd.region ?_
  refine Ol.p mvi ?_
  refine Ol.p mvs ?_
  refine Ol.p (lens sl_L_L_api_Func) ?_
  refine Ol.p lsi ?_
  refine Ol.nil ?_
  refine Cd.cond rfl (fun h => absurd h (by decide)) (fun _ => ?_)
  refine Cd.exit (id := 8) ?_
  refine Cd.seq ?_
  refine Cd.seq ?_
  refine Cd.region ?_
  refine Ol.p asi ?_
  refine Ol.nil ?_
  refine Cd.block ?_
  refine Cd.loop (fun m σ L => Has σ [(0, .slice none 0 0), (5, VG), (11, .int .i64 0)] ∧ LG = L) (n := 0) ⟨⟨rfl, rfl, rfl, trivial⟩, rfl⟩ ?_
  rintro _ σ L ⟨hs, rfl⟩
  refine Cd.has hs ?_
  clear hs
  refine Cd.seq ?_
  refine Cd.seq ?_
  refine Cd.region ?_
  refine Ol.p mvi ?_
  refine Ol.p mvs ?_
  refine Ol.p (lens sl_L_L_api_Func) ?_
  refine Ol.p lsi ?_
  refine Ol.nil ?_
  refine Cd.cond rfl (fun h => absurd h (by decide)) (fun _ => ?_)
  refine Cd.exit (id := 12) ?_
  refine Cd.seq ?_
  refine Cd.seq ?_
  refine Cd.region ?_
  refine Ol.p asi ?_
  refine Ol.nil ?_
  refine Cd.block ?_
  refine Cd.loop (fun m σ L => Has σ [(0, .slice none 0 0), (5, VG), (14, .int .i64 0)] ∧ LG = L) (n := 0) ⟨⟨rfl, rfl, rfl, trivial⟩, rfl⟩ ?_
  rintro _ σ L ⟨hs, rfl⟩
  refine Cd.has hs ?_
  clear hs
  refine Cd.seq ?_
  refine Cd.seq ?_
  refine Cd.region ?_
  refine Ol.p mvi ?_
  refine Ol.p mvs ?_
  refine Ol.p (lens sl_L_L_api_Func) ?_
  refine Ol.p lsi ?_
  refine Ol.nil ?_
  refine Cd.cond rfl (fun h => absurd h (by decide)) (fun _ => ?_)
  refine Cd.exit (id := 16) ?_
  refine Cd.seq ?_
  refine Cd.region ?_
  refine Ol.p asb ?_
  refine Ol.nil ?_
  exact Cd.ret ⟨.bool true, ret1 rfl rfl, [], Keep.nil, rfl, rfl⟩
theorem kit_flatTargets_nil {w : World} : Ct Tryz.prog 119 #[.slice none 0 0] w (Is (.bool true)) := by
  refine Ct.mk Tryz.func119 rfl rfl ?_
  refine Cd.seq ?_
  refine Cd.region ?_
  refine Ol.p asb ?_
  refine Ol.nil ?_
  refine Cd.seq ?_
  refine Cd.seq ?_
  refine Cd.region ?_
  refine Ol.p asi ?_
  refine Ol.nil ?_
  refine Cd.block ?_
  refine Cd.loop (fun m σ L => Has σ [(0, .slice none 0 0), (3, .int .i64 0)] ∧ [] = L) (n := 0) ⟨⟨rfl, rfl, trivial⟩, rfl⟩ ?_
  rintro _ σ L ⟨hs, rfl⟩
  refine Cd.has hs ?_
  clear hs
  refine Cd.seq ?_
  refine Cd.seq ?_
  refine Cd.region ?_
  refine Ol.p mvi ?_
  refine Ol.p mvs ?_
  refine Ol.p (lens sl_L_L_api_Target) ?_
  refine Ol.p lsi ?_
  refine Ol.nil ?_
  refine Cd.cond rfl (fun h => absurd h (by decide)) (fun _ => ?_)
  refine Cd.exit (id := 0) ?_
  refine Cd.seq ?_
  refine Cd.region ?_
  refine Ol.p mvs ?_
  refine Ol.p (lens sl_L_L_api_Target) ?_
  refine Ol.x (mks (n := 0) (c := 0) sl_L_L_api_Target zr_L_api_Target) ?_
  rintro _ _ ⟨gm, rfl, rfl⟩
  refine Ol.p ass ?_
  refine Ol.nil ?_
  obtain ⟨VG, hVG⟩ : ∃ V, V = Value.slice (some ⟨gm, 0, none⟩) 0 0 := ⟨_, rfl⟩
  rw [← hVG]
  obtain ⟨LG, hLG⟩ : ∃ LG : List Res, LG = [row VG 199 1 0 ((madeCells (Value.slice none 0 0).cells (0 * 1)).toList.take (0 * 1))] := ⟨_, rfl⟩
  rw [← hLG]
  refine Cd.seq ?_
  refine Cd.seq ?_
  refine Cd.region ?_
  refine Ol.p asi ?_
  refine Ol.nil ?_
  refine Cd.block ?_
  refine Cd.loop (fun m σ L => Has σ [(0, .slice none 0 0), (5, VG), (6, .int .i64 0)] ∧ LG = L) (n := 0) ⟨⟨rfl, rfl, rfl, trivial⟩, rfl⟩ ?_
  rintro _ σ L ⟨hs, rfl⟩
  refine Cd.has hs ?_
  clear hs
  refine Cd.seq ?_
  refine Cd.seq ?_
  refine Cd.region ?_
  refine Ol.p mvi ?_
  refine Ol.p mvs ?_
  refine Ol.p (lens sl_L_L_api_Target) ?_
  refine Ol.p lsi ?_
  refine Ol.nil ?_
  refine Cd.cond rfl (fun h => absurd h (by decide)) (fun _ => ?_)
  refine Cd.exit (id := 4) ?_
  refine Cd.seq ?_
  refine Cd.seq ?_
  refine Cd.region ?_
  refine Ol.p asi ?_
  refine Ol.nil ?_
  refine Cd.block ?_
  refine Cd.loop (fun m σ L => Has σ [(0, .slice none 0 0), (5, VG), (9, .int .i64 0)] ∧ LG = L) (n := 0) ⟨⟨rfl, rfl, rfl, trivial⟩, rfl⟩ ?_
  rintro _ σ L ⟨hs, rfl⟩
  refine Cd.has hs ?_
  clear hs
  refine Cd.seq ?_
  refine Cd.seq ?_
  refine Cd.region ?_
  refine Ol.p mvi ?_
  refine Ol.p mvs ?_
  refine Ol.p (lens sl_L_L_api_Target) ?_
  refine Ol.p lsi ?_
  refine Ol.nil ?_
  refine Cd.cond rfl (fun h => absurd h (by decide)) (fun _ => ?_)
  refine Cd.exit (id := 8) ?_
  refine Cd.seq ?_
  refine Cd.seq ?_
  refine Cd.region ?_
  refine Ol.p asi ?_
  refine Ol.nil ?_
  refine Cd.block ?_
  refine Cd.loop (fun m σ L => Has σ [(0, .slice none 0 0), (5, VG), (11, .int .i64 0)] ∧ LG = L) (n := 0) ⟨⟨rfl, rfl, rfl, trivial⟩, rfl⟩ ?_
  rintro _ σ L ⟨hs, rfl⟩
  refine Cd.has hs ?_
  clear hs
  refine Cd.seq ?_
  refine Cd.seq ?_
  refine Cd.region ?_
  refine Ol.p mvi ?_
  refine Ol.p mvs ?_
  refine Ol.p (lens sl_L_L_api_Target) ?_
  refine Ol.p lsi ?_
  refine Ol.nil ?_
  refine Cd.cond rfl (fun h => absurd h (by decide)) (fun _ => ?_)
  refine Cd.exit (id := 12) ?_
  refine Cd.seq ?_
  refine Cd.seq ?_
  refine Cd.region ?_
  refine Ol.p asi ?_
  refine Ol.nil ?_
  refine Cd.block ?_
  refine Cd.loop (fun m σ L => Has σ [(0, .slice none 0 0), (5, VG), (14, .int .i64 0)] ∧ LG = L) (n := 0) ⟨⟨rfl, rfl, rfl, trivial⟩, rfl⟩ ?_
  rintro _ σ L ⟨hs, rfl⟩
  refine Cd.has hs ?_
  clear hs
  refine Cd.seq ?_
  refine Cd.seq ?_
  refine Cd.region ?_
  refine Ol.p mvi ?_
  refine Ol.p mvs ?_
  refine Ol.p (lens sl_L_L_api_Target) ?_
  refine Ol.p lsi ?_
  refine Ol.nil ?_
  refine Cd.cond rfl (fun h => absurd h (by decide)) (fun _ => ?_)
  refine Cd.exit (id := 16) ?_
  refine Cd.seq ?_
  refine Cd.region ?_
  refine Ol.p asb ?_
  refine Ol.nil ?_
  exact Cd.ret ⟨.bool true, ret1 rfl rfl, [], Keep.nil, rfl, rfl⟩
theorem kit_flatMachines_nil {w : World} : Ct Tryz.prog 120 #[.slice none 0 0] w (Is (.bool true)) := by
  refine Ct.mk Tryz.func120 rfl rfl ?_
  refine Cd.seq ?_
  refine Cd.region ?_
  refine Ol.p asb ?_
  refine Ol.nil ?_
  refine Cd.seq ?_
  refine Cd.seq ?_
  refine Cd.region ?_
  refine Ol.p asi ?_
  refine Ol.nil ?_
  refine Cd.block ?_
  refine Cd.loop (fun m σ L => Has σ [(0, .slice none 0 0), (3, .int .i64 0)] ∧ [] = L) (n := 0) ⟨⟨rfl, rfl, trivial⟩, rfl⟩ ?_
  rintro _ σ L ⟨hs, rfl⟩
  refine Cd.has hs ?_
  clear hs
  refine Cd.seq ?_
  refine Cd.seq ?_
  refine Cd.region ?_
  refine Ol.p mvi ?_
  refine Ol.p mvs ?_
  refine Ol.p (lens sl_L_L_api_Machine) ?_
  refine Ol.p lsi ?_
  refine Ol.nil ?_
  refine Cd.cond rfl (fun h => absurd h (by decide)) (fun _ => ?_)
  refine Cd.exit (id := 0) ?_
  refine Cd.seq ?_
  refine Cd.region ?_
  refine Ol.p mvs ?_
  refine Ol.p (lens sl_L_L_api_Machine) ?_
  refine Ol.x (mks (n := 0) (c := 0) sl_L_L_api_Machine zr_L_api_Machine) ?_
  rintro _ _ ⟨gm, rfl, rfl⟩
  refine Ol.p ass ?_
  refine Ol.nil ?_
  obtain ⟨VG, hVG⟩ : ∃ V, V = Value.slice (some ⟨gm, 0, none⟩) 0 0 := ⟨_, rfl⟩
  rw [← hVG]
  obtain ⟨LG, hLG⟩ : ∃ LG : List Res, LG = [row VG 204 1 0 ((madeCells (Value.slice none 0 0).cells (0 * 1)).toList.take (0 * 1))] := ⟨_, rfl⟩
  rw [← hLG]
  refine Cd.seq ?_
  refine Cd.seq ?_
  refine Cd.region ?_
  refine Ol.p asi ?_
  refine Ol.nil ?_
  refine Cd.block ?_
  refine Cd.loop (fun m σ L => Has σ [(0, .slice none 0 0), (5, VG), (6, .int .i64 0)] ∧ LG = L) (n := 0) ⟨⟨rfl, rfl, rfl, trivial⟩, rfl⟩ ?_
  rintro _ σ L ⟨hs, rfl⟩
  refine Cd.has hs ?_
  clear hs
  refine Cd.seq ?_
  refine Cd.seq ?_
  refine Cd.region ?_
  refine Ol.p mvi ?_
  refine Ol.p mvs ?_
  refine Ol.p (lens sl_L_L_api_Machine) ?_
  refine Ol.p lsi ?_
  refine Ol.nil ?_
  refine Cd.cond rfl (fun h => absurd h (by decide)) (fun _ => ?_)
  refine Cd.exit (id := 4) ?_
  refine Cd.seq ?_
  refine Cd.seq ?_
  refine Cd.region ?_
  refine Ol.p asi ?_
  refine Ol.nil ?_
  refine Cd.block ?_
  refine Cd.loop (fun m σ L => Has σ [(0, .slice none 0 0), (5, VG), (9, .int .i64 0)] ∧ LG = L) (n := 0) ⟨⟨rfl, rfl, rfl, trivial⟩, rfl⟩ ?_
  rintro _ σ L ⟨hs, rfl⟩
  refine Cd.has hs ?_
  clear hs
  refine Cd.seq ?_
  refine Cd.seq ?_
  refine Cd.region ?_
  refine Ol.p mvi ?_
  refine Ol.p mvs ?_
  refine Ol.p (lens sl_L_L_api_Machine) ?_
  refine Ol.p lsi ?_
  refine Ol.nil ?_
  refine Cd.cond rfl (fun h => absurd h (by decide)) (fun _ => ?_)
  refine Cd.exit (id := 8) ?_
  refine Cd.seq ?_
  refine Cd.seq ?_
  refine Cd.region ?_
  refine Ol.p asi ?_
  refine Ol.nil ?_
  refine Cd.block ?_
  refine Cd.loop (fun m σ L => Has σ [(0, .slice none 0 0), (5, VG), (11, .int .i64 0)] ∧ LG = L) (n := 0) ⟨⟨rfl, rfl, rfl, trivial⟩, rfl⟩ ?_
  rintro _ σ L ⟨hs, rfl⟩
  refine Cd.has hs ?_
  clear hs
  refine Cd.seq ?_
  refine Cd.seq ?_
  refine Cd.region ?_
  refine Ol.p mvi ?_
  refine Ol.p mvs ?_
  refine Ol.p (lens sl_L_L_api_Machine) ?_
  refine Ol.p lsi ?_
  refine Ol.nil ?_
  refine Cd.cond rfl (fun h => absurd h (by decide)) (fun _ => ?_)
  refine Cd.exit (id := 12) ?_
  refine Cd.seq ?_
  refine Cd.seq ?_
  refine Cd.region ?_
  refine Ol.p asi ?_
  refine Ol.nil ?_
  refine Cd.block ?_
  refine Cd.loop (fun m σ L => Has σ [(0, .slice none 0 0), (5, VG), (14, .int .i64 0)] ∧ LG = L) (n := 0) ⟨⟨rfl, rfl, rfl, trivial⟩, rfl⟩ ?_
  rintro _ σ L ⟨hs, rfl⟩
  refine Cd.has hs ?_
  clear hs
  refine Cd.seq ?_
  refine Cd.seq ?_
  refine Cd.region ?_
  refine Ol.p mvi ?_
  refine Ol.p mvs ?_
  refine Ol.p (lens sl_L_L_api_Machine) ?_
  refine Ol.p lsi ?_
  refine Ol.nil ?_
  refine Cd.cond rfl (fun h => absurd h (by decide)) (fun _ => ?_)
  refine Cd.exit (id := 16) ?_
  refine Cd.seq ?_
  refine Cd.region ?_
  refine Ol.p asb ?_
  refine Ol.nil ?_
  exact Cd.ret ⟨.bool true, ret1 rfl rfl, [], Keep.nil, rfl, rfl⟩
theorem kit_flatLocs_nil {w : World} : Ct Tryz.prog 121 #[.slice none 0 0] w (Is (.bool true)) := by
  refine Ct.mk Tryz.func121 rfl rfl ?_
  refine Cd.seq ?_
  refine Cd.region ?_
  refine Ol.p asb ?_
  refine Ol.nil ?_
  refine Cd.seq ?_
  refine Cd.seq ?_
  refine Cd.region ?_
  refine Ol.p asi ?_
  refine Ol.nil ?_
  refine Cd.block ?_
  refine Cd.loop (fun m σ L => Has σ [(0, .slice none 0 0), (3, .int .i64 0)] ∧ [] = L) (n := 0) ⟨⟨rfl, rfl, trivial⟩, rfl⟩ ?_
  rintro _ σ L ⟨hs, rfl⟩
  refine Cd.has hs ?_
  clear hs
  refine Cd.seq ?_
  refine Cd.seq ?_
  refine Cd.region ?_
  refine Ol.p mvi ?_
  refine Ol.p mvs ?_
  refine Ol.p (lens sl_L_L_api_Loc) ?_
  refine Ol.p lsi ?_
  refine Ol.nil ?_
  refine Cd.cond rfl (fun h => absurd h (by decide)) (fun _ => ?_)
  refine Cd.exit (id := 0) ?_
  refine Cd.seq ?_
  refine Cd.region ?_
  refine Ol.p mvs ?_
  refine Ol.p (lens sl_L_L_api_Loc) ?_
  refine Ol.x (mks (n := 0) (c := 0) sl_L_L_api_Loc zr_L_api_Loc) ?_
  rintro _ _ ⟨gm, rfl, rfl⟩
  refine Ol.p ass ?_
  refine Ol.nil ?_
  obtain ⟨VG, hVG⟩ : ∃ V, V = Value.slice (some ⟨gm, 0, none⟩) 0 0 := ⟨_, rfl⟩
  rw [← hVG]
  obtain ⟨LG, hLG⟩ : ∃ LG : List Res, LG = [row VG 209 1 0 ((madeCells (Value.slice none 0 0).cells (0 * 1)).toList.take (0 * 1))] := ⟨_, rfl⟩
  rw [← hLG]
  refine Cd.seq ?_
  refine Cd.seq ?_
  refine Cd.region ?_
  refine Ol.p asi ?_
  refine Ol.nil ?_
  refine Cd.block ?_
  refine Cd.loop (fun m σ L => Has σ [(0, .slice none 0 0), (5, VG), (6, .int .i64 0)] ∧ LG = L) (n := 0) ⟨⟨rfl, rfl, rfl, trivial⟩, rfl⟩ ?_
  rintro _ σ L ⟨hs, rfl⟩
  refine Cd.has hs ?_
  clear hs
  refine Cd.seq ?_
  refine Cd.seq ?_
  refine Cd.region ?_
  refine Ol.p mvi ?_
  refine Ol.p mvs ?_
  refine Ol.p (lens sl_L_L_api_Loc) ?_
  refine Ol.p lsi ?_
  refine Ol.nil ?_
  refine Cd.cond rfl (fun h => absurd h (by decide)) (fun _ => ?_)
  refine Cd.exit (id := 4) ?_
  refine Cd.seq ?_
  refine Cd.seq ?_
  refine Cd.region ?_
  refine Ol.p asi ?_
  refine Ol.nil ?_
  refine Cd.block ?_
  refine Cd.loop (fun m σ L => Has σ [(0, .slice none 0 0), (5, VG), (9, .int .i64 0)] ∧ LG = L) (n := 0) ⟨⟨rfl, rfl, rfl, trivial⟩, rfl⟩ ?_
  rintro _ σ L ⟨hs, rfl⟩
  refine Cd.has hs ?_
  clear hs
  refine Cd.seq ?_
  refine Cd.seq ?_
  refine Cd.region ?_
  refine Ol.p mvi ?_
  refine Ol.p mvs ?_
  refine Ol.p (lens sl_L_L_api_Loc) ?_
  refine Ol.p lsi ?_
  refine Ol.nil ?_
  refine Cd.cond rfl (fun h => absurd h (by decide)) (fun _ => ?_)
  refine Cd.exit (id := 8) ?_
  refine Cd.seq ?_
  refine Cd.seq ?_
  refine Cd.region ?_
  refine Ol.p asi ?_
  refine Ol.nil ?_
  refine Cd.block ?_
  refine Cd.loop (fun m σ L => Has σ [(0, .slice none 0 0), (5, VG), (11, .int .i64 0)] ∧ LG = L) (n := 0) ⟨⟨rfl, rfl, rfl, trivial⟩, rfl⟩ ?_
  rintro _ σ L ⟨hs, rfl⟩
  refine Cd.has hs ?_
  clear hs
  refine Cd.seq ?_
  refine Cd.seq ?_
  refine Cd.region ?_
  refine Ol.p mvi ?_
  refine Ol.p mvs ?_
  refine Ol.p (lens sl_L_L_api_Loc) ?_
  refine Ol.p lsi ?_
  refine Ol.nil ?_
  refine Cd.cond rfl (fun h => absurd h (by decide)) (fun _ => ?_)
  refine Cd.exit (id := 12) ?_
  refine Cd.seq ?_
  refine Cd.seq ?_
  refine Cd.region ?_
  refine Ol.p asi ?_
  refine Ol.nil ?_
  refine Cd.block ?_
  refine Cd.loop (fun m σ L => Has σ [(0, .slice none 0 0), (5, VG), (14, .int .i64 0)] ∧ LG = L) (n := 0) ⟨⟨rfl, rfl, rfl, trivial⟩, rfl⟩ ?_
  rintro _ σ L ⟨hs, rfl⟩
  refine Cd.has hs ?_
  clear hs
  refine Cd.seq ?_
  refine Cd.seq ?_
  refine Cd.region ?_
  refine Ol.p mvi ?_
  refine Ol.p mvs ?_
  refine Ol.p (lens sl_L_L_api_Loc) ?_
  refine Ol.p lsi ?_
  refine Ol.nil ?_
  refine Cd.cond rfl (fun h => absurd h (by decide)) (fun _ => ?_)
  refine Cd.exit (id := 16) ?_
  refine Cd.seq ?_
  refine Cd.region ?_
  refine Ol.p asb ?_
  refine Ol.nil ?_
  exact Cd.ret ⟨.bool true, ret1 rfl rfl, [], Keep.nil, rfl, rfl⟩
theorem kit_flatFacts_nil {w : World} : Ct Tryz.prog 122 #[.slice none 0 0] w (Is (.bool true)) := by
  refine Ct.mk Tryz.func122 rfl rfl ?_
  refine Cd.seq ?_
  refine Cd.region ?_
  refine Ol.p asb ?_
  refine Ol.nil ?_
  refine Cd.seq ?_
  refine Cd.seq ?_
  refine Cd.region ?_
  refine Ol.p asi ?_
  refine Ol.nil ?_
  refine Cd.block ?_
  refine Cd.loop (fun m σ L => Has σ [(0, .slice none 0 0), (3, .int .i64 0)] ∧ [] = L) (n := 0) ⟨⟨rfl, rfl, trivial⟩, rfl⟩ ?_
  rintro _ σ L ⟨hs, rfl⟩
  refine Cd.has hs ?_
  clear hs
  refine Cd.seq ?_
  refine Cd.seq ?_
  refine Cd.region ?_
  refine Ol.p mvi ?_
  refine Ol.p mvs ?_
  refine Ol.p (lens sl_L_L_api_Fact) ?_
  refine Ol.p lsi ?_
  refine Ol.nil ?_
  refine Cd.cond rfl (fun h => absurd h (by decide)) (fun _ => ?_)
  refine Cd.exit (id := 0) ?_
  refine Cd.seq ?_
  refine Cd.region ?_
  refine Ol.p mvs ?_
  refine Ol.p (lens sl_L_L_api_Fact) ?_
  refine Ol.x (mks (n := 0) (c := 0) sl_L_L_api_Fact zr_L_api_Fact) ?_
  rintro _ _ ⟨gm, rfl, rfl⟩
  refine Ol.p ass ?_
  refine Ol.nil ?_
  obtain ⟨VG, hVG⟩ : ∃ V, V = Value.slice (some ⟨gm, 0, none⟩) 0 0 := ⟨_, rfl⟩
  rw [← hVG]
  obtain ⟨LG, hLG⟩ : ∃ LG : List Res, LG = [row VG 213 1 0 ((madeCells (Value.slice none 0 0).cells (0 * 1)).toList.take (0 * 1))] := ⟨_, rfl⟩
  rw [← hLG]
  refine Cd.seq ?_
  refine Cd.seq ?_
  refine Cd.region ?_
  refine Ol.p asi ?_
  refine Ol.nil ?_
  refine Cd.block ?_
  refine Cd.loop (fun m σ L => Has σ [(0, .slice none 0 0), (5, VG), (6, .int .i64 0)] ∧ LG = L) (n := 0) ⟨⟨rfl, rfl, rfl, trivial⟩, rfl⟩ ?_
  rintro _ σ L ⟨hs, rfl⟩
  refine Cd.has hs ?_
  clear hs
  refine Cd.seq ?_
  refine Cd.seq ?_
  refine Cd.region ?_
  refine Ol.p mvi ?_
  refine Ol.p mvs ?_
  refine Ol.p (lens sl_L_L_api_Fact) ?_
  refine Ol.p lsi ?_
  refine Ol.nil ?_
  refine Cd.cond rfl (fun h => absurd h (by decide)) (fun _ => ?_)
  refine Cd.exit (id := 4) ?_
  refine Cd.seq ?_
  refine Cd.seq ?_
  refine Cd.region ?_
  refine Ol.p asi ?_
  refine Ol.nil ?_
  refine Cd.block ?_
  refine Cd.loop (fun m σ L => Has σ [(0, .slice none 0 0), (5, VG), (9, .int .i64 0)] ∧ LG = L) (n := 0) ⟨⟨rfl, rfl, rfl, trivial⟩, rfl⟩ ?_
  rintro _ σ L ⟨hs, rfl⟩
  refine Cd.has hs ?_
  clear hs
  refine Cd.seq ?_
  refine Cd.seq ?_
  refine Cd.region ?_
  refine Ol.p mvi ?_
  refine Ol.p mvs ?_
  refine Ol.p (lens sl_L_L_api_Fact) ?_
  refine Ol.p lsi ?_
  refine Ol.nil ?_
  refine Cd.cond rfl (fun h => absurd h (by decide)) (fun _ => ?_)
  refine Cd.exit (id := 8) ?_
  refine Cd.seq ?_
  refine Cd.seq ?_
  refine Cd.region ?_
  refine Ol.p asi ?_
  refine Ol.nil ?_
  refine Cd.block ?_
  refine Cd.loop (fun m σ L => Has σ [(0, .slice none 0 0), (5, VG), (11, .int .i64 0)] ∧ LG = L) (n := 0) ⟨⟨rfl, rfl, rfl, trivial⟩, rfl⟩ ?_
  rintro _ σ L ⟨hs, rfl⟩
  refine Cd.has hs ?_
  clear hs
  refine Cd.seq ?_
  refine Cd.seq ?_
  refine Cd.region ?_
  refine Ol.p mvi ?_
  refine Ol.p mvs ?_
  refine Ol.p (lens sl_L_L_api_Fact) ?_
  refine Ol.p lsi ?_
  refine Ol.nil ?_
  refine Cd.cond rfl (fun h => absurd h (by decide)) (fun _ => ?_)
  refine Cd.exit (id := 12) ?_
  refine Cd.seq ?_
  refine Cd.seq ?_
  refine Cd.region ?_
  refine Ol.p asi ?_
  refine Ol.nil ?_
  refine Cd.block ?_
  refine Cd.loop (fun m σ L => Has σ [(0, .slice none 0 0), (5, VG), (14, .int .i64 0)] ∧ LG = L) (n := 0) ⟨⟨rfl, rfl, rfl, trivial⟩, rfl⟩ ?_
  rintro _ σ L ⟨hs, rfl⟩
  refine Cd.has hs ?_
  clear hs
  refine Cd.seq ?_
  refine Cd.seq ?_
  refine Cd.region ?_
  refine Ol.p mvi ?_
  refine Ol.p mvs ?_
  refine Ol.p (lens sl_L_L_api_Fact) ?_
  refine Ol.p lsi ?_
  refine Ol.nil ?_
  refine Cd.cond rfl (fun h => absurd h (by decide)) (fun _ => ?_)
  refine Cd.exit (id := 16) ?_
  refine Cd.seq ?_
  refine Cd.region ?_
  refine Ol.p asb ?_
  refine Ol.nil ?_
  exact Cd.ret ⟨.bool true, ret1 rfl rfl, [], Keep.nil, rfl, rfl⟩
theorem kit_flatEdges_nil {w : World} : Ct Tryz.prog 123 #[.slice none 0 0] w (Is (.bool true)) := by
  refine Ct.mk Tryz.func123 rfl rfl ?_
  refine Cd.seq ?_
  refine Cd.region ?_
  refine Ol.p asb ?_
  refine Ol.nil ?_
  refine Cd.seq ?_
  refine Cd.seq ?_
  refine Cd.region ?_
  refine Ol.p asi ?_
  refine Ol.nil ?_
  refine Cd.block ?_
  refine Cd.loop (fun m σ L => Has σ [(0, .slice none 0 0), (3, .int .i64 0)] ∧ [] = L) (n := 0) ⟨⟨rfl, rfl, trivial⟩, rfl⟩ ?_
  rintro _ σ L ⟨hs, rfl⟩
  refine Cd.has hs ?_
  clear hs
  refine Cd.seq ?_
  refine Cd.seq ?_
  refine Cd.region ?_
  refine Ol.p mvi ?_
  refine Ol.p mvs ?_
  refine Ol.p (lens sl_L_L_api_Edge) ?_
  refine Ol.p lsi ?_
  refine Ol.nil ?_
  refine Cd.cond rfl (fun h => absurd h (by decide)) (fun _ => ?_)
  refine Cd.exit (id := 0) ?_
  refine Cd.seq ?_
  refine Cd.region ?_
  refine Ol.p mvs ?_
  refine Ol.p (lens sl_L_L_api_Edge) ?_
  refine Ol.x (mks (n := 0) (c := 0) sl_L_L_api_Edge zr_L_api_Edge) ?_
  rintro _ _ ⟨gm, rfl, rfl⟩
  refine Ol.p ass ?_
  refine Ol.nil ?_
  obtain ⟨VG, hVG⟩ : ∃ V, V = Value.slice (some ⟨gm, 0, none⟩) 0 0 := ⟨_, rfl⟩
  rw [← hVG]
  obtain ⟨LG, hLG⟩ : ∃ LG : List Res, LG = [row VG 217 1 0 ((madeCells (Value.slice none 0 0).cells (0 * 1)).toList.take (0 * 1))] := ⟨_, rfl⟩
  rw [← hLG]
  refine Cd.seq ?_
  refine Cd.seq ?_
  refine Cd.region ?_
  refine Ol.p asi ?_
  refine Ol.nil ?_
  refine Cd.block ?_
  refine Cd.loop (fun m σ L => Has σ [(0, .slice none 0 0), (5, VG), (6, .int .i64 0)] ∧ LG = L) (n := 0) ⟨⟨rfl, rfl, rfl, trivial⟩, rfl⟩ ?_
  rintro _ σ L ⟨hs, rfl⟩
  refine Cd.has hs ?_
  clear hs
  refine Cd.seq ?_
  refine Cd.seq ?_
  refine Cd.region ?_
  refine Ol.p mvi ?_
  refine Ol.p mvs ?_
  refine Ol.p (lens sl_L_L_api_Edge) ?_
  refine Ol.p lsi ?_
  refine Ol.nil ?_
  refine Cd.cond rfl (fun h => absurd h (by decide)) (fun _ => ?_)
  refine Cd.exit (id := 4) ?_
  refine Cd.seq ?_
  refine Cd.seq ?_
  refine Cd.region ?_
  refine Ol.p asi ?_
  refine Ol.nil ?_
  refine Cd.block ?_
  refine Cd.loop (fun m σ L => Has σ [(0, .slice none 0 0), (5, VG), (9, .int .i64 0)] ∧ LG = L) (n := 0) ⟨⟨rfl, rfl, rfl, trivial⟩, rfl⟩ ?_
  rintro _ σ L ⟨hs, rfl⟩
  refine Cd.has hs ?_
  clear hs
  refine Cd.seq ?_
  refine Cd.seq ?_
  refine Cd.region ?_
  refine Ol.p mvi ?_
  refine Ol.p mvs ?_
  refine Ol.p (lens sl_L_L_api_Edge) ?_
  refine Ol.p lsi ?_
  refine Ol.nil ?_
  refine Cd.cond rfl (fun h => absurd h (by decide)) (fun _ => ?_)
  refine Cd.exit (id := 8) ?_
  refine Cd.seq ?_
  refine Cd.seq ?_
  refine Cd.region ?_
  refine Ol.p asi ?_
  refine Ol.nil ?_
  refine Cd.block ?_
  refine Cd.loop (fun m σ L => Has σ [(0, .slice none 0 0), (5, VG), (11, .int .i64 0)] ∧ LG = L) (n := 0) ⟨⟨rfl, rfl, rfl, trivial⟩, rfl⟩ ?_
  rintro _ σ L ⟨hs, rfl⟩
  refine Cd.has hs ?_
  clear hs
  refine Cd.seq ?_
  refine Cd.seq ?_
  refine Cd.region ?_
  refine Ol.p mvi ?_
  refine Ol.p mvs ?_
  refine Ol.p (lens sl_L_L_api_Edge) ?_
  refine Ol.p lsi ?_
  refine Ol.nil ?_
  refine Cd.cond rfl (fun h => absurd h (by decide)) (fun _ => ?_)
  refine Cd.exit (id := 12) ?_
  refine Cd.seq ?_
  refine Cd.seq ?_
  refine Cd.region ?_
  refine Ol.p asi ?_
  refine Ol.nil ?_
  refine Cd.block ?_
  refine Cd.loop (fun m σ L => Has σ [(0, .slice none 0 0), (5, VG), (14, .int .i64 0)] ∧ LG = L) (n := 0) ⟨⟨rfl, rfl, rfl, trivial⟩, rfl⟩ ?_
  rintro _ σ L ⟨hs, rfl⟩
  refine Cd.has hs ?_
  clear hs
  refine Cd.seq ?_
  refine Cd.seq ?_
  refine Cd.region ?_
  refine Ol.p mvi ?_
  refine Ol.p mvs ?_
  refine Ol.p (lens sl_L_L_api_Edge) ?_
  refine Ol.p lsi ?_
  refine Ol.nil ?_
  refine Cd.cond rfl (fun h => absurd h (by decide)) (fun _ => ?_)
  refine Cd.exit (id := 16) ?_
  refine Cd.seq ?_
  refine Cd.region ?_
  refine Ol.p asb ?_
  refine Ol.nil ?_
  exact Cd.ret ⟨.bool true, ret1 rfl rfl, [], Keep.nil, rfl, rfl⟩
theorem kit_flatTiles_nil {w : World} : Ct Tryz.prog 124 #[.slice none 0 0] w (Is (.bool true)) := by
  refine Ct.mk Tryz.func124 rfl rfl ?_
  refine Cd.seq ?_
  refine Cd.region ?_
  refine Ol.p asb ?_
  refine Ol.nil ?_
  refine Cd.seq ?_
  refine Cd.seq ?_
  refine Cd.region ?_
  refine Ol.p asi ?_
  refine Ol.nil ?_
  refine Cd.block ?_
  refine Cd.loop (fun m σ L => Has σ [(0, .slice none 0 0), (3, .int .i64 0)] ∧ [] = L) (n := 0) ⟨⟨rfl, rfl, trivial⟩, rfl⟩ ?_
  rintro _ σ L ⟨hs, rfl⟩
  refine Cd.has hs ?_
  clear hs
  refine Cd.seq ?_
  refine Cd.seq ?_
  refine Cd.region ?_
  refine Ol.p mvi ?_
  refine Ol.p mvs ?_
  refine Ol.p (lens sl_L_L_api_Tile) ?_
  refine Ol.p lsi ?_
  refine Ol.nil ?_
  refine Cd.cond rfl (fun h => absurd h (by decide)) (fun _ => ?_)
  refine Cd.exit (id := 0) ?_
  refine Cd.seq ?_
  refine Cd.region ?_
  refine Ol.p mvs ?_
  refine Ol.p (lens sl_L_L_api_Tile) ?_
  refine Ol.x (mks (n := 0) (c := 0) sl_L_L_api_Tile zr_L_api_Tile) ?_
  rintro _ _ ⟨gm, rfl, rfl⟩
  refine Ol.p ass ?_
  refine Ol.nil ?_
  obtain ⟨VG, hVG⟩ : ∃ V, V = Value.slice (some ⟨gm, 0, none⟩) 0 0 := ⟨_, rfl⟩
  rw [← hVG]
  obtain ⟨LG, hLG⟩ : ∃ LG : List Res, LG = [row VG 221 1 0 ((madeCells (Value.slice none 0 0).cells (0 * 1)).toList.take (0 * 1))] := ⟨_, rfl⟩
  rw [← hLG]
  refine Cd.seq ?_
  refine Cd.seq ?_
  refine Cd.region ?_
  refine Ol.p asi ?_
  refine Ol.nil ?_
  refine Cd.block ?_
  refine Cd.loop (fun m σ L => Has σ [(0, .slice none 0 0), (5, VG), (6, .int .i64 0)] ∧ LG = L) (n := 0) ⟨⟨rfl, rfl, rfl, trivial⟩, rfl⟩ ?_
  rintro _ σ L ⟨hs, rfl⟩
  refine Cd.has hs ?_
  clear hs
  refine Cd.seq ?_
  refine Cd.seq ?_
  refine Cd.region ?_
  refine Ol.p mvi ?_
  refine Ol.p mvs ?_
  refine Ol.p (lens sl_L_L_api_Tile) ?_
  refine Ol.p lsi ?_
  refine Ol.nil ?_
  refine Cd.cond rfl (fun h => absurd h (by decide)) (fun _ => ?_)
  refine Cd.exit (id := 4) ?_
  refine Cd.seq ?_
  refine Cd.seq ?_
  refine Cd.region ?_
  refine Ol.p asi ?_
  refine Ol.nil ?_
  refine Cd.block ?_
  refine Cd.loop (fun m σ L => Has σ [(0, .slice none 0 0), (5, VG), (9, .int .i64 0)] ∧ LG = L) (n := 0) ⟨⟨rfl, rfl, rfl, trivial⟩, rfl⟩ ?_
  rintro _ σ L ⟨hs, rfl⟩
  refine Cd.has hs ?_
  clear hs
  refine Cd.seq ?_
  refine Cd.seq ?_
  refine Cd.region ?_
  refine Ol.p mvi ?_
  refine Ol.p mvs ?_
  refine Ol.p (lens sl_L_L_api_Tile) ?_
  refine Ol.p lsi ?_
  refine Ol.nil ?_
  refine Cd.cond rfl (fun h => absurd h (by decide)) (fun _ => ?_)
  refine Cd.exit (id := 8) ?_
  refine Cd.seq ?_
  refine Cd.seq ?_
  refine Cd.region ?_
  refine Ol.p asi ?_
  refine Ol.nil ?_
  refine Cd.block ?_
  refine Cd.loop (fun m σ L => Has σ [(0, .slice none 0 0), (5, VG), (11, .int .i64 0)] ∧ LG = L) (n := 0) ⟨⟨rfl, rfl, rfl, trivial⟩, rfl⟩ ?_
  rintro _ σ L ⟨hs, rfl⟩
  refine Cd.has hs ?_
  clear hs
  refine Cd.seq ?_
  refine Cd.seq ?_
  refine Cd.region ?_
  refine Ol.p mvi ?_
  refine Ol.p mvs ?_
  refine Ol.p (lens sl_L_L_api_Tile) ?_
  refine Ol.p lsi ?_
  refine Ol.nil ?_
  refine Cd.cond rfl (fun h => absurd h (by decide)) (fun _ => ?_)
  refine Cd.exit (id := 12) ?_
  refine Cd.seq ?_
  refine Cd.seq ?_
  refine Cd.region ?_
  refine Ol.p asi ?_
  refine Ol.nil ?_
  refine Cd.block ?_
  refine Cd.loop (fun m σ L => Has σ [(0, .slice none 0 0), (5, VG), (14, .int .i64 0)] ∧ LG = L) (n := 0) ⟨⟨rfl, rfl, rfl, trivial⟩, rfl⟩ ?_
  rintro _ σ L ⟨hs, rfl⟩
  refine Cd.has hs ?_
  clear hs
  refine Cd.seq ?_
  refine Cd.seq ?_
  refine Cd.region ?_
  refine Ol.p mvi ?_
  refine Ol.p mvs ?_
  refine Ol.p (lens sl_L_L_api_Tile) ?_
  refine Ol.p lsi ?_
  refine Ol.nil ?_
  refine Cd.cond rfl (fun h => absurd h (by decide)) (fun _ => ?_)
  refine Cd.exit (id := 16) ?_
  refine Cd.seq ?_
  refine Cd.region ?_
  refine Ol.p asb ?_
  refine Ol.nil ?_
  exact Cd.ret ⟨.bool true, ret1 rfl rfl, [], Keep.nil, rfl, rfl⟩
theorem kit_flatCalls_nil {w : World} : Ct Tryz.prog 125 #[.slice none 0 0] w (Is (.bool true)) := by
  refine Ct.mk Tryz.func125 rfl rfl ?_
  refine Cd.seq ?_
  refine Cd.region ?_
  refine Ol.p asb ?_
  refine Ol.nil ?_
  refine Cd.seq ?_
  refine Cd.seq ?_
  refine Cd.region ?_
  refine Ol.p asi ?_
  refine Ol.nil ?_
  refine Cd.block ?_
  refine Cd.loop (fun m σ L => Has σ [(0, .slice none 0 0), (3, .int .i64 0)] ∧ [] = L) (n := 0) ⟨⟨rfl, rfl, trivial⟩, rfl⟩ ?_
  rintro _ σ L ⟨hs, rfl⟩
  refine Cd.has hs ?_
  clear hs
  refine Cd.seq ?_
  refine Cd.seq ?_
  refine Cd.region ?_
  refine Ol.p mvi ?_
  refine Ol.p mvs ?_
  refine Ol.p (lens sl_L_L_api_Call) ?_
  refine Ol.p lsi ?_
  refine Ol.nil ?_
  refine Cd.cond rfl (fun h => absurd h (by decide)) (fun _ => ?_)
  refine Cd.exit (id := 0) ?_
  refine Cd.seq ?_
  refine Cd.region ?_
  refine Ol.p mvs ?_
  refine Ol.p (lens sl_L_L_api_Call) ?_
  refine Ol.x (mks (n := 0) (c := 0) sl_L_L_api_Call zr_L_api_Call) ?_
  rintro _ _ ⟨gm, rfl, rfl⟩
  refine Ol.p ass ?_
  refine Ol.nil ?_
  obtain ⟨VG, hVG⟩ : ∃ V, V = Value.slice (some ⟨gm, 0, none⟩) 0 0 := ⟨_, rfl⟩
  rw [← hVG]
  obtain ⟨LG, hLG⟩ : ∃ LG : List Res, LG = [row VG 44 1 0 ((madeCells (Value.slice none 0 0).cells (0 * 1)).toList.take (0 * 1))] := ⟨_, rfl⟩
  rw [← hLG]
  refine Cd.seq ?_
  refine Cd.seq ?_
  refine Cd.region ?_
  refine Ol.p asi ?_
  refine Ol.nil ?_
  refine Cd.block ?_
  refine Cd.loop (fun m σ L => Has σ [(0, .slice none 0 0), (5, VG), (6, .int .i64 0)] ∧ LG = L) (n := 0) ⟨⟨rfl, rfl, rfl, trivial⟩, rfl⟩ ?_
  rintro _ σ L ⟨hs, rfl⟩
  refine Cd.has hs ?_
  clear hs
  refine Cd.seq ?_
  refine Cd.seq ?_
  refine Cd.region ?_
  refine Ol.p mvi ?_
  refine Ol.p mvs ?_
  refine Ol.p (lens sl_L_L_api_Call) ?_
  refine Ol.p lsi ?_
  refine Ol.nil ?_
  refine Cd.cond rfl (fun h => absurd h (by decide)) (fun _ => ?_)
  refine Cd.exit (id := 4) ?_
  refine Cd.seq ?_
  refine Cd.seq ?_
  refine Cd.region ?_
  refine Ol.p asi ?_
  refine Ol.nil ?_
  refine Cd.block ?_
  refine Cd.loop (fun m σ L => Has σ [(0, .slice none 0 0), (5, VG), (9, .int .i64 0)] ∧ LG = L) (n := 0) ⟨⟨rfl, rfl, rfl, trivial⟩, rfl⟩ ?_
  rintro _ σ L ⟨hs, rfl⟩
  refine Cd.has hs ?_
  clear hs
  refine Cd.seq ?_
  refine Cd.seq ?_
  refine Cd.region ?_
  refine Ol.p mvi ?_
  refine Ol.p mvs ?_
  refine Ol.p (lens sl_L_L_api_Call) ?_
  refine Ol.p lsi ?_
  refine Ol.nil ?_
  refine Cd.cond rfl (fun h => absurd h (by decide)) (fun _ => ?_)
  refine Cd.exit (id := 8) ?_
  refine Cd.seq ?_
  refine Cd.seq ?_
  refine Cd.region ?_
  refine Ol.p asi ?_
  refine Ol.nil ?_
  refine Cd.block ?_
  refine Cd.loop (fun m σ L => Has σ [(0, .slice none 0 0), (5, VG), (11, .int .i64 0)] ∧ LG = L) (n := 0) ⟨⟨rfl, rfl, rfl, trivial⟩, rfl⟩ ?_
  rintro _ σ L ⟨hs, rfl⟩
  refine Cd.has hs ?_
  clear hs
  refine Cd.seq ?_
  refine Cd.seq ?_
  refine Cd.region ?_
  refine Ol.p mvi ?_
  refine Ol.p mvs ?_
  refine Ol.p (lens sl_L_L_api_Call) ?_
  refine Ol.p lsi ?_
  refine Ol.nil ?_
  refine Cd.cond rfl (fun h => absurd h (by decide)) (fun _ => ?_)
  refine Cd.exit (id := 12) ?_
  refine Cd.seq ?_
  refine Cd.seq ?_
  refine Cd.region ?_
  refine Ol.p asi ?_
  refine Ol.nil ?_
  refine Cd.block ?_
  refine Cd.loop (fun m σ L => Has σ [(0, .slice none 0 0), (5, VG), (14, .int .i64 0)] ∧ LG = L) (n := 0) ⟨⟨rfl, rfl, rfl, trivial⟩, rfl⟩ ?_
  rintro _ σ L ⟨hs, rfl⟩
  refine Cd.has hs ?_
  clear hs
  refine Cd.seq ?_
  refine Cd.seq ?_
  refine Cd.region ?_
  refine Ol.p mvi ?_
  refine Ol.p mvs ?_
  refine Ol.p (lens sl_L_L_api_Call) ?_
  refine Ol.p lsi ?_
  refine Ol.nil ?_
  refine Cd.cond rfl (fun h => absurd h (by decide)) (fun _ => ?_)
  refine Cd.exit (id := 16) ?_
  refine Cd.seq ?_
  refine Cd.region ?_
  refine Ol.p asb ?_
  refine Ol.nil ?_
  exact Cd.ret ⟨.bool true, ret1 rfl rfl, [], Keep.nil, rfl, rfl⟩
end
end Go.Proofs.YtcojedoejpcolaaGreat

/- The kit: ApartInts, walked. -/
namespace Go.Proofs.YtcojedoejpcolaaGreat
set_option linter.unusedVariables false
set_option linter.unusedSimpArgs false
open Go Go.RowKit
set_option maxRecDepth 100000
section
/-- A bag that holds lists of numbers alone. -/
def bagC (v : Value) : Array Value := #[.slice none 0 0, .slice none 0 0, v, .slice none 0 0, .slice none 0 0, .slice none 0 0, .slice none 0 0, .slice none 0 0, .slice none 0 0, .slice none 0 0, .slice none 0 0, .slice none 0 0, .slice none 0 0, .slice none 0 0, .slice none 0 0, .slice none 0 0, .slice none 0 0]
theorem hdL_succ (N : Nat) (it : Nat → Li) : hdL (N + 1) it = hdL N it ++ [.slice (it N).A (it N).n (it N).c] := by simp [hdL, List.range_succ, Li.v]
theorem kit_putInts_cm {w0 : World} {B g n c nl cl : Nat} {A Al : Option Addr} {hs : List Value} (hho : n < 50000) :
    Cm Tryz.prog 80 #[.pointer (some ⟨g, 0, none⟩), .slice Al nl cl] w0 B [blk g (.cells (bagC (.slice A n c)) 139), row (.slice A n c) 22 1 n hs] (fun v L => v = .tuple #[] ∧ ∃ A' c', L = [blk g (.cells (bagC (.slice A' (n + 1) c')) 139), row (.slice A' (n + 1) c') 22 1 (n + 1) (hs ++ [.slice Al nl cl])]) := by
  refine Cm.mk Tryz.func80 rfl rfl fun M => ?_
  refine Cd.region ?_
  refine Ol.p mvp ?_
  refine Ol.p mvp ?_
  refine Ol.p nlc ?_
  refine Ol.p (fda fd_kit_bag_2) ?_
  refine Ol.p (ld (v := .slice A n c) one_L_L_int (Rd.blk (i := 0) (k := 2) rfl rfl)) ?_
  refine Ol.p mvs ?_
  refine Ol.x (bsv [.slice Al nl cl] sl_L_L_int zr_L_int (by simp [Value.cells])) ?_
  rintro _ _ ⟨g9, rfl, rfl⟩
  refine Ol.x (apn (i := 2) (n := n) (m := 1) sl_L_L_int zr_L_int rfl (by decide) rfl (Src.row (i := 0) rfl rfl) (by intro u hu; simp at hu; subst hu; rfl) (by unfold maxLen; omega) (by omega)) ?_
  rintro _ _ ⟨A', c', rfl, rfl⟩
  refine Ol.p nlc ?_
  refine Ol.p (fda fd_kit_bag_2) ?_
  refine Ol.s (sto (i := 1) (k := 2) (v := .slice A' (n + 1) c') (.inr sz_L_L_int) rfl rfl rfl (by simp [bagC]) rfl) ?_
  refine Ol.nil ?_
  exact ⟨_, ret0 rfl, _, .sub (.cons _ (List.Sublist.refl _)), rfl, A', c', rfl⟩

theorem kit_apart_cm {w0 : World} {B g N cL : Nat} {AL : Option Addr} {it : Nat → Li} {X0 : Nat → List Value} (hN : N < 50000) (hx0 : ∀ k, k < N → (X0 k).length = (it k).m) (hnm : ∀ k, k < N → (it k).n ≤ (it k).m) (hns : ∀ k, k < N → (it k).n < 2 ^ 39) :
    Cm Tryz.prog 81 #[.pointer (some ⟨g, 0, none⟩)] w0 B (blk g (.cells (bagC (.slice AL N cL)) 139) :: row (.slice AL N cL) 22 1 N (hdL N it) :: rowsL N it X0) (Is (.bool true)) := by
  refine Cm.mk Tryz.func81 rfl rfl fun M => ?_
  refine Cd.seq ?_
  refine Cd.region ?_
  refine Ol.p asb ?_
  refine Ol.nil ?_
  refine Cd.seq ?_
  refine Cd.region ?_
  refine Ol.p mvp ?_
  refine Ol.p nlc ?_
  refine Ol.p (fda fd_kit_bag_0) ?_
  refine Ol.p (ld (v := .slice none 0 0) one_L_L_uint32 (Rd.blk (i := 0) (k := 0) rfl rfl)) ?_
  refine Ol.s (cl en_kit_flatLimbs (fun M w' hh => kit_flatLimbs_nil)) ?_
  refine Ol.p mvb ?_
  refine Ol.gp rfl mvp ?_
  refine Ol.gp rfl nlc ?_
  refine Ol.gp rfl (fda fd_kit_bag_1) ?_
  refine Ol.gp rfl (ld (v := .slice none 0 0) one_L_L_uint64 (Rd.blk (i := 0) (k := 1) rfl rfl)) ?_
  refine Ol.gs rfl (cl en_kit_flatWords (fun M w' hh => kit_flatWords_nil)) ?_
  refine Ol.p (pkTb rfl) ?_
  refine Ol.p mvb ?_
  refine Ol.gp rfl mvp ?_
  refine Ol.gp rfl nlc ?_
  refine Ol.gp rfl (fda fd_kit_bag_2) ?_
  refine Ol.gp rfl (ld (v := .slice AL N cL) one_L_L_int (Rd.blk (i := 0) (k := 2) rfl rfl)) ?_
  refine Ol.gx rfl (sp_callm (vs := [.slice AL N cL]) (Lin := row (.slice AL N cL) 22 1 N (hdL N it) :: rowsL N it X0) (L2 := [blk g (.cells (bagC (.slice AL N cL)) 139)]) en_kit_flatInts (List.perm_append_comm (l₁ := [blk g (.cells (bagC (.slice AL N cL)) 139)])) (kit_flatInts_cm hN hx0 hnm hns)) ?_
  rintro _ _ ⟨_, rfl, rfl, rfl⟩
  refine Ol.p (pkTb rfl) ?_
  refine Ol.p mvb ?_
  refine Ol.gp rfl mvp ?_
  refine Ol.gp rfl nlc ?_
  refine Ol.gp rfl (fda fd_kit_bag_3) ?_
  refine Ol.gp rfl (ld (v := .slice none 0 0) one_L_L_int64 (Rd.blk (i := 0) (k := 3) rfl rfl)) ?_
  refine Ol.gs rfl (cl en_kit_flatLongs (fun M w' hh => kit_flatLongs_nil)) ?_
  refine Ol.p (pkTb rfl) ?_
  refine Ol.p mvb ?_
  refine Ol.gp rfl mvp ?_
  refine Ol.gp rfl nlc ?_
  refine Ol.gp rfl (fda fd_kit_bag_4) ?_
  refine Ol.gp rfl (ld (v := .slice none 0 0) one_L_L_string (Rd.blk (i := 0) (k := 4) rfl rfl)) ?_
  refine Ol.gs rfl (cl en_kit_flatTexts (fun M w' hh => kit_flatTexts_nil)) ?_
  refine Ol.p (pkTb rfl) ?_
  refine Ol.p mvb ?_
  refine Ol.gp rfl mvp ?_
  refine Ol.gp rfl nlc ?_
  refine Ol.gp rfl (fda fd_kit_bag_5) ?_
  refine Ol.gp rfl (ld (v := .slice none 0 0) one_L_L_uint8 (Rd.blk (i := 0) (k := 5) rfl rfl)) ?_
  refine Ol.gs rfl (cl en_kit_flatBytes (fun M w' hh => kit_flatBytes_nil)) ?_
  refine Ol.p (pkTb rfl) ?_
  refine Ol.p mvb ?_
  refine Ol.gp rfl mvp ?_
  refine Ol.gp rfl nlc ?_
  refine Ol.gp rfl (fda fd_kit_bag_6) ?_
  refine Ol.gp rfl (ld (v := .slice none 0 0) one_L_L_bool (Rd.blk (i := 0) (k := 6) rfl rfl)) ?_
  refine Ol.gs rfl (cl en_kit_flatTruths (fun M w' hh => kit_flatTruths_nil)) ?_
  refine Ol.p (pkTb rfl) ?_
  refine Ol.p mvb ?_
  refine Ol.gp rfl mvp ?_
  refine Ol.gp rfl nlc ?_
  refine Ol.gp rfl (fda fd_kit_bag_7) ?_
  refine Ol.gp rfl (ld (v := .slice none 0 0) one_L_L_api_Ins (Rd.blk (i := 0) (k := 7) rfl rfl)) ?_
  refine Ol.gs rfl (cl en_kit_flatRow (fun M w' hh => kit_flatRow_nil)) ?_
  refine Ol.p (pkTb rfl) ?_
  refine Ol.p mvb ?_
  refine Ol.gp rfl mvp ?_
  refine Ol.gp rfl nlc ?_
  refine Ol.gp rfl (fda fd_kit_bag_8) ?_
  refine Ol.gp rfl (ld (v := .slice none 0 0) one_L_L_api_Block (Rd.blk (i := 0) (k := 8) rfl rfl)) ?_
  refine Ol.gs rfl (cl en_kit_flatBlocks (fun M w' hh => kit_flatBlocks_nil)) ?_
  refine Ol.p (pkTb rfl) ?_
  refine Ol.p mvb ?_
  refine Ol.gp rfl mvp ?_
  refine Ol.gp rfl nlc ?_
  refine Ol.gp rfl (fda fd_kit_bag_9) ?_
  refine Ol.gp rfl (ld (v := .slice none 0 0) one_L_L_api_Func (Rd.blk (i := 0) (k := 9) rfl rfl)) ?_
  refine Ol.gs rfl (cl en_kit_flatFuncs (fun M w' hh => kit_flatFuncs_nil)) ?_
  refine Ol.p (pkTb rfl) ?_
  refine Ol.p mvb ?_
  refine Ol.gp rfl mvp ?_
  refine Ol.gp rfl nlc ?_
  refine Ol.gp rfl (fda fd_kit_bag_10) ?_
  refine Ol.gp rfl (ld (v := .slice none 0 0) one_L_L_api_Target (Rd.blk (i := 0) (k := 10) rfl rfl)) ?_
  refine Ol.gs rfl (cl en_kit_flatTargets (fun M w' hh => kit_flatTargets_nil)) ?_
  refine Ol.p (pkTb rfl) ?_
  refine Ol.p mvb ?_
  refine Ol.gp rfl mvp ?_
  refine Ol.gp rfl nlc ?_
  refine Ol.gp rfl (fda fd_kit_bag_11) ?_
  refine Ol.gp rfl (ld (v := .slice none 0 0) one_L_L_api_Machine (Rd.blk (i := 0) (k := 11) rfl rfl)) ?_
  refine Ol.gs rfl (cl en_kit_flatMachines (fun M w' hh => kit_flatMachines_nil)) ?_
  refine Ol.p (pkTb rfl) ?_
  refine Ol.p mvb ?_
  refine Ol.gp rfl mvp ?_
  refine Ol.gp rfl nlc ?_
  refine Ol.gp rfl (fda fd_kit_bag_12) ?_
  refine Ol.gp rfl (ld (v := .slice none 0 0) one_L_L_api_Loc (Rd.blk (i := 0) (k := 12) rfl rfl)) ?_
  refine Ol.gs rfl (cl en_kit_flatLocs (fun M w' hh => kit_flatLocs_nil)) ?_
  refine Ol.p (pkTb rfl) ?_
  refine Ol.p mvb ?_
  refine Ol.gp rfl mvp ?_
  refine Ol.gp rfl nlc ?_
  refine Ol.gp rfl (fda fd_kit_bag_13) ?_
  refine Ol.gp rfl (ld (v := .slice none 0 0) one_L_L_api_Fact (Rd.blk (i := 0) (k := 13) rfl rfl)) ?_
  refine Ol.gs rfl (cl en_kit_flatFacts (fun M w' hh => kit_flatFacts_nil)) ?_
  refine Ol.p (pkTb rfl) ?_
  refine Ol.p mvb ?_
  refine Ol.gp rfl mvp ?_
  refine Ol.gp rfl nlc ?_
  refine Ol.gp rfl (fda fd_kit_bag_14) ?_
  refine Ol.gp rfl (ld (v := .slice none 0 0) one_L_L_api_Edge (Rd.blk (i := 0) (k := 14) rfl rfl)) ?_
  refine Ol.gs rfl (cl en_kit_flatEdges (fun M w' hh => kit_flatEdges_nil)) ?_
  refine Ol.p (pkTb rfl) ?_
  refine Ol.p mvb ?_
  refine Ol.gp rfl mvp ?_
  refine Ol.gp rfl nlc ?_
  refine Ol.gp rfl (fda fd_kit_bag_15) ?_
  refine Ol.gp rfl (ld (v := .slice none 0 0) one_L_L_api_Tile (Rd.blk (i := 0) (k := 15) rfl rfl)) ?_
  refine Ol.gs rfl (cl en_kit_flatTiles (fun M w' hh => kit_flatTiles_nil)) ?_
  refine Ol.p (pkTb rfl) ?_
  refine Ol.p mvb ?_
  refine Ol.gp rfl mvp ?_
  refine Ol.gp rfl nlc ?_
  refine Ol.gp rfl (fda fd_kit_bag_16) ?_
  refine Ol.gp rfl (ld (v := .slice none 0 0) one_L_L_api_Call (Rd.blk (i := 0) (k := 16) rfl rfl)) ?_
  refine Ol.gs rfl (cl en_kit_flatCalls (fun M w' hh => kit_flatCalls_nil)) ?_
  refine Ol.p (pkTb rfl) ?_
  refine Ol.p asb ?_
  refine Ol.nil ?_
  exact Cd.ret ⟨.bool true, ret1 rfl rfl, [], Keep.nil, rfl, rfl⟩
theorem kit_ApartInts_cm {w0 : World} {B N cL : Nat} {AL : Option Addr} {it : Nat → Li} {X0 : Nat → List Value} (hN : N < 50000) (hx0 : ∀ k, k < N → (X0 k).length = (it k).m) (hnm : ∀ k, k < N → (it k).n ≤ (it k).m) (hns : ∀ k, k < N → (it k).n < 2 ^ 39) :
    Cm Tryz.prog 43 #[.slice AL N cL] w0 B (row (.slice AL N cL) 22 1 N (hdL N it) :: rowsL N it X0) (Is (.bool true)) := by
  refine Cm.mk Tryz.func43 rfl rfl fun M => ?_
  obtain ⟨RS, hRS⟩ : ∃ RS, RS = rowsL N it X0 := ⟨_, rfl⟩
  rw [← hRS]
  refine Cd.seq ?_
  refine Cd.region ?_
  refine Ol.p asb ?_
  refine Ol.nil ?_
  refine Cd.nr 22 1 ?_
  refine Cd.seq ?_
  refine Cd.region ?_
  refine Ol.p (bds (cs := bagC (.slice none 0 0)) bs_kit_bag zr_kit_bag (hf := by kernel_rfl)) ?_
  refine Ol.x bxg ?_
  rintro _ _ ⟨g6, rfl, rfl⟩
  refine Ol.p asp ?_
  refine Ol.nil ?_
  refine Cd.seq ?_
  refine Cd.seq ?_
  refine Cd.region ?_
  refine Ol.p asi ?_
  refine Ol.nil ?_
  refine Cd.block ?_
  refine Cd.loop (fun m σ L => ∃ (k : Nat) (A : Option Addr) (c : Nat), m = N - k ∧ k ≤ N ∧ Has σ [(0, .slice AL N cL), (3, .pointer (some ⟨g6, 0, none⟩)), (4, .int .i64 k)] ∧ blk g6 (.cells (bagC (.slice A k c)) 139) :: row (.slice A k c) 22 1 k (hdL k it) :: row (.slice AL N cL) 22 1 N (hdL N it) :: RS = L) (n := N) ⟨0, none, 0, rfl, Nat.zero_le _, ⟨rfl, rfl, rfl, trivial⟩, rfl⟩ ?_
  rintro _ σ L ⟨k, A, c, rfl, hk, hs, rfl⟩
  refine Cd.has hs ?_
  clear hs
  refine Cd.seq ?_
  refine Cd.seq ?_
  refine Cd.region ?_
  refine Ol.p mvi ?_
  refine Ol.p mvs ?_
  refine Ol.p (lens sl_L_L_int) ?_
  refine Ol.p lsi ?_
  refine Ol.nil ?_
  refine Cd.cond rfl (fun h => ?_) (fun h => ?_)
  · have hlt : k < N := by
      have h : decide ((k : Int) < (N : Int)) = true := h
      have := of_decide_eq_true h
      omega
    have hd : (hdL N it)[k * 1]? = some (.slice (it k).A (it k).n (it k).c) := by rw [Nat.mul_one, hdL_get hlt]
    refine Cd.skip ?_
    refine Cd.seq ?_
    refine Cd.block ?_
    refine Cd.region ?_
    refine Ol.p mvp ?_
    refine Ol.p mvs ?_
    refine Ol.p mvi ?_
    refine Ol.p (ixn (ix := k) sl_L_L_int (Som.row (i := 2) rfl (by omega))) ?_
    refine Ol.p (ld (v := .slice (it k).A (it k).n (it k).c) one_L_int (Rd.row (i := 2) rfl hd)) ?_
    refine Ol.x (sp_callm (vs := [.pointer (some ⟨g6, 0, none⟩), .slice (it k).A (it k).n (it k).c]) (Lin := [blk g6 (.cells (bagC (.slice A k c)) 139), row (.slice A k c) 22 1 k (hdL k it)]) (L2 := row (.slice AL N cL) 22 1 N (hdL N it) :: RS) en_P_kit_bag_putInts (.refl _) (kit_putInts_cm (by omega))) ?_
    rintro _ _ ⟨_, rfl, rfl, A', c', rfl⟩
    refine Ol.nil ?_
    refine Cd.region ?_
    refine Ol.p mvi ?_
    refine Ol.p addi ?_
    refine Ol.p asi ?_
    refine Ol.nil ?_
    exact ⟨N - (k + 1), by omega, k + 1, A', c', rfl, by omega, ⟨rfl, rfl, rfl, trivial⟩, by rw [hdL_succ]; rfl⟩
  have hke : k = N := by
    have h : decide ((k : Int) < (N : Int)) = false := h
    have := of_decide_eq_false h
    omega
  obtain rfl : N = k := hke.symm
  refine Cd.exit (id := 0) ?_
  refine Cd.seq ?_
  refine Cd.region ?_
  refine Ol.p mvp ?_
  refine Ol.x (sp_callm (vs := [.pointer (some ⟨g6, 0, none⟩)]) (Lin := blk g6 (.cells (bagC (.slice A N c)) 139) :: row (.slice A N c) 22 1 N (hdL N it) :: rowsL N it X0) (L2 := [row (.slice AL N cL) 22 1 N (hdL N it)]) en_P_kit_bag_apart (by rw [hRS]; exact perm_count fun _ x => by simp only [List.set_cons_succ, List.set_cons_zero, List.count_append, List.count_cons, List.count_nil, List.cons_append, List.nil_append]; omega) (kit_apart_cm hN hx0 hnm hns)) ?_
  rintro _ _ ⟨_, rfl, rfl, rfl⟩
  refine Ol.p asb ?_
  refine Ol.nil ?_
  exact Cd.ret ⟨.bool true, ret1 rfl rfl, [], Keep.nil, rfl, rfl⟩
end
end Go.Proofs.YtcojedoejpcolaaGreat

/- The package ir: a function's variables, its size, walked. -/
namespace Go.Proofs.YtcojedoejpcolaaGreat
set_option linter.unusedVariables false
open Go Go.RowKit
set_option maxRecDepth 100000

/-- What is noted of an instruction, of a block, of a function. -/
def noteI (i : RIns) : List Int := readsL i ++ [defI i]
def noteB (b : RBlk) : List Int := b.ins.flatMap noteI ++ needsL b.term
def noteF (f : RFun) : List Int := f.params ++ f.blocks.flatMap noteB
def noS : VS := fun _ => false
theorem putsV_app (S : VS) (a b : List Int) : putsV S (a ++ b) true = putsV (putsV S a true) b true := by
  unfold putsV; rw [List.foldl_append]
theorem putsV_snoc (S : VS) (a : List Int) (n : Int) : putsV S (a ++ [n]) true = putV (putsV S a true) n.toNat true := by
  rw [putsV_app]; rfl
theorem putsV_iff {l : List Int} {S : VS} {v : Nat} : putsV S l true v = true ↔ S v = true ∨ ∃ n ∈ l, n.toNat = v := by
  induction l generalizing S with
  | nil => simp [putsV]
  | cons n l ih =>
    show putsV (putV S n.toNat true) l true v = true ↔ _
    rw [ih]
    have : putV S n.toNat true v = true ↔ S v = true ∨ n.toNat = v := by
      unfold putV
      by_cases e : v = n.toNat
      · rw [if_pos e]; simp [e]
      · rw [if_neg e]
        exact ⟨.inl, fun h => h.elim id fun h => absurd h.symm e⟩
    rw [this]
    simp only [List.mem_cons, exists_eq_or_imp]
    exact or_assoc
def varsTo (S : VS) (k : Nat) : List Nat := (List.range' 1 k).filter S
theorem varsTo_succ (S : VS) (k : Nat) : varsTo S (k + 1) = varsTo S k ++ (if S (k + 1) then [k + 1] else []) := by
  unfold varsTo
  rw [List.range'_concat, List.filter_append]
  congr 1
  rw [Nat.one_mul, Nat.add_comm 1 k]
  cases h : S (k + 1) <;> simp [h]
theorem varsTo_len (S : VS) (k : Nat) : (varsTo S k).length ≤ k := by
  unfold varsTo
  exact Nat.le_trans (List.length_filter_le _ _) (by simp)
def okF (f : RFun) : Bool := !longF f && wholeF f
def varsF (f : RFun) : List Nat := if okF f then varsTo (putsV noS (noteF f) true) 200 else []
def sizeF (f : RFun) : Nat := if okF f then (f.blocks.map fun b => b.ins.length + 1).sum else 0
theorem mem_varsF {f : RFun} {v : Nat} : v ∈ varsF f ↔ okF f = true ∧ (1 ≤ v ∧ v ≤ 200) ∧ ∃ n ∈ noteF f, n.toNat = v := by
  unfold varsF
  cases h : okF f with
  | false => simp
  | true =>
    rw [if_pos rfl]
    unfold varsTo
    rw [List.mem_filter, putsV_iff, List.mem_range'_1]
    simp only [noS, Bool.false_eq_true, false_or, true_and]
    exact ⟨fun ⟨h1, h2⟩ => ⟨⟨h1.1, by omega⟩, h2⟩, fun ⟨h1, h2⟩ => ⟨⟨h1.1, by omega⟩, h2⟩⟩
theorem ok_parts {f : RFun} (h : okF f = true) : longF f = false ∧ wholeF f = true := by
  unfold okF at h
  rw [Bool.and_eq_true] at h
  exact ⟨by simpa using h.1, h.2⟩
theorem whole_params {f : RFun} (h : wholeF f = true) : ∀ p ∈ f.params, 1 ≤ p ∧ p ≤ 200 := fun p hp => by
  rw [whole_split, Bool.and_eq_true, Bool.and_eq_true] at h
  have := List.all_eq_true.1 h.1.1 p hp
  unfold varB at this
  simpa using this
theorem noteI_range {i : RIns} {n : Int} (h : n ∈ noteI i) : 0 ≤ n ∧ n ≤ 200 := by
  unfold noteI at h
  rcases List.mem_append.1 h with h | h
  · have := readsL_mem h; omega
  · have e : n = defI i := by simpa using h
    rw [e]; exact defI_range i
theorem RdS.held {w0 : World} {B s n : Nat} {L : List Res} {A : Option Addr} {xs : List Value} {M : List Res} {w : World} (h : RdS w0 B L s A n xs) (hh : Hp w0 B (M ++ L) w) : Reads w w.heap.size s A n xs := h M w hh
section
/-- Numbers are noted. -/
theorem ir_Vars_1_ct {w0 : World} {B g c : Nat} {A : Option Addr} {l : List Int} {S : VS} {R : List Res} (hl : RdS w0 B R 1 A l.length (ints l)) (hlen : l.length < 2 ^ 60) (hr : ∀ n ∈ l, 0 ≤ n ∧ n ≤ 200) :
    Cm Tryz.prog 90 #[.slice A l.length c, .pointer (some ⟨g, 0, none⟩)] w0 B (blk g (.cells (encV S) 145) :: R) (fun v L => v = .tuple #[] ∧ L = blk g (.cells (encV (putsV S l true)) 145) :: R) := by
  refine Cm.mk Tryz.func90 rfl rfl fun M => ?_
  refine Cd.seq ?_
  refine Cd.region ?_
  refine Ol.p mvs ?_
  refine Ol.p (lens sl_L_int) ?_
  refine Ol.p mvi ?_
  refine Ol.nil ?_
  refine Cd.block ?_
  refine Cd.loop (fun m σ L => ∃ k, m = l.length - k ∧ k ≤ l.length ∧ Has σ [(1, .pointer (some ⟨g, 0, none⟩)), (5, .slice A l.length c), (6, .int .i64 l.length), (7, .int .i64 k)] ∧ blk g (.cells (encV (putsV S (l.take k) true)) 145) :: R = L) (n := l.length) ⟨0, rfl, Nat.zero_le _, ⟨rfl, rfl, rfl, rfl, trivial⟩, rfl⟩ ?_
  rintro _ σ L ⟨k, rfl, hk, hs, rfl⟩
  refine Cd.has hs ?_
  refine Cd.seq ?_
  refine Cd.region ?_
  refine Ol.p lsi ?_
  refine Ol.nil ?_
  refine Cd.seq ?_
  refine Cd.cond rfl (fun h => ?_) (fun h => ?_)
  · have hlt : k < l.length := by simpa using h
    obtain ⟨n, hn⟩ : ∃ n, l[k]? = some n := ⟨_, List.getElem?_eq_getElem hlt⟩
    have hnr := hr n (List.mem_of_getElem? hn)
    obtain ⟨m, rfl⟩ : ∃ m : Nat, n = (m : Int) := ⟨n.toNat, by omega⟩
    refine Cd.skip ?_
    refine Cd.seq ?_
    refine Cd.block ?_
    refine Cd.seq ?_
    refine Cd.region ?_
    refine Ol.p (ixn1 (ix := k) sl_L_int (Som.rds hl.more (by omega))) ?_
    refine Ol.p (ld one_int (Rd.rds hl.more (ints_at hn))) ?_
    refine Ol.p asi ?_
    refine Ol.nil ?_
    refine Cd.region ?_
    refine Ol.p mvi ?_
    refine Ol.p (ixl1 (ix := m) ar_ir_set) ?_
    refine Ol.s (sto (v := .bool true) (i := 0) (k := m) (.inr sz_bool) rfl rfl rfl (by rw [encV_size]; omega) rfl) ?_
    refine Ol.nil ?_
    refine Cd.region ?_
    refine Ol.p addi ?_
    refine Ol.p mvi ?_
    refine Ol.nil ?_
    refine ⟨l.length - (k + 1), by omega, k + 1, rfl, by omega, ⟨rfl, rfl, rfl, rfl, trivial⟩, ?_⟩
    rw [take_snoc_ hn, putsV_snoc, ← encV_set]
    rfl
  have hge : k = l.length := by
    have : ¬ (k : Int) < l.length := by simpa using h
    omega
  subst hge
  refine Cd.exit (id := 0) ⟨_, ret0 rfl, _, .all, rfl, by rw [List.take_of_length_le (Nat.le_refl _)]⟩
end
section
set_option maxHeartbeats 4000000 in
theorem ir_Vars_ct {w : World} {f : RFun} (hf : FunAt w w.heap.size f) (hfit : Fit f) : Ct Tryz.prog 48 #[f.val] w (NewL 3 1 (varsF f).length (intsN (varsF f))) := by
  have hbl := hfit.blen
  have hpl := hfit.plen
  refine Ct.mk Tryz.func48 rfl rfl ?_
  refine Cd.seq ?_
  refine Cd.region ?_
  refine Ol.x bxg ?_
  rintro _ _ ⟨g1, rfl, rfl⟩
  refine Ol.p ass ?_
  refine Ol.nil ?_
  refine Cd.seq ?_
  cases hok : okF f with
  | false =>
    have hv : varsF f = [] := by unfold varsF; rw [hok]; rfl
    rw [hv]
    refine Cd.mid (fun σ' L' => Has σ' [(16, .bool true)] ∧ [blk g1 (.cells f.cells.toArray 37)] = L') ?_ ?_
    · cases hl : longF f with
      | true =>
        refine Cd.region ?_
        refine Ol.p (ldw ag_api_Func (i := 0) rfl rfl) ?_
        refine Ol.s (cl en_ir_long (fun M w' hh => ir_long_ct (hf.now hh) hfit)) ?_
        refine Ol.p mvb ?_
        refine Ol.gn hl ?_
        refine Ol.gn hl ?_
        refine Ol.gn hl ?_
        refine Ol.p (pkTb hl) ?_
        refine Ol.nil ?_
        exact ⟨⟨rfl, trivial⟩, rfl⟩
      | false =>
        have hw : wholeF f = false := by unfold okF at hok; rw [hl] at hok; simpa using hok
        refine Cd.region ?_
        refine Ol.p (ldw ag_api_Func (i := 0) rfl rfl) ?_
        refine Ol.s (cl en_ir_long (fun M w' hh => ir_long_ct (hf.now hh) hfit)) ?_
        refine Ol.p mvb ?_
        refine Ol.gp hl (ldw ag_api_Func (i := 0) rfl rfl) ?_
        refine Ol.gs hl (cl en_ir_whole (fun M w' hh => ir_whole_ct (hf.now hh) hfit)) ?_
        refine Ol.gp hl noti ?_
        refine Ol.p (pkFb hl) ?_
        refine Ol.nil ?_
        exact ⟨⟨by show Value.bool _ = _; rw [hw]; rfl, trivial⟩, rfl⟩
    rintro σ' _ ⟨hs', rfl⟩
    refine Cd.has hs' ?_
    refine Cd.cond rfl (fun h => ?_) (fun h => by cases h)
    refine Cd.seq ?_
    refine Cd.region ?_
    refine Ol.p ass ?_
    refine Ol.nil ?_
    exact Cd.nr 3 1 (Cd.ret ⟨_, ret1 rfl rfl, _, .sub (.cons_cons _ (.cons _ .slnil)), none, 0, rfl, rfl⟩)
  | true =>
  obtain ⟨hl, hw⟩ := ok_parts hok
  obtain ⟨h0, h200, h8, h64⟩ := long_parts hl
  have hwb : (!wholeF f) = false := by rw [hw]; rfl
  have hprm : ∀ n ∈ f.params, 0 ≤ n ∧ n ≤ 200 := fun n hn => by have := whole_params hw n hn; omega
  have hv : varsF f = varsTo (putsV noS (noteF f) true) 200 := by unfold varsF; rw [hok]; rfl
  rw [hv]
  refine Cd.seq ?_
  refine Cd.region ?_
  refine Ol.p (ldw ag_api_Func (i := 0) rfl rfl) ?_
  refine Ol.s (cl en_ir_long (fun M w' hh => ir_long_ct (hf.now hh) hfit)) ?_
  refine Ol.p mvb ?_
  refine Ol.gp hl (ldw ag_api_Func (i := 0) rfl rfl) ?_
  refine Ol.gs hl (cl en_ir_whole (fun M w' hh => ir_whole_ct (hf.now hh) hfit)) ?_
  refine Ol.gp hl noti ?_
  refine Ol.p (pkFb hl) ?_
  refine Ol.nil ?_
  refine Cd.cond rfl (fun h => by rw [hwb] at h; cases h) (fun h => ?_)
  refine Cd.skip ?_
  refine Cd.seq ?_
  refine Cd.region ?_
  refine Ol.x (alc zr_ir_set) ?_
  rintro _ _ ⟨g3, rfl, rfl⟩
  refine Ol.nil ?_
  refine Cd.seq ?_
  refine Cd.region ?_
  refine Ol.p mkf ?_
  refine Ol.p asf ?_
  refine Ol.nil ?_
  have hz : (Array.replicate 201 (Value.bool false)) = encV noS := zeroV
  have hnote : ∀ {σ : Env} {L R L2 : List Res} {d ty pos af gd} {x y : Operand} {ts : Array TypeId} {A : Option Addr} {c : Nat} {l : List Int} {S : VS}, L.Perm ((blk g3 (.cells (encV S) 145) :: R) ++ L2) → RdS w w.heap.size R 1 A l.length (ints l) → l.length < 2 ^ 60 → (∀ n ∈ l, 0 ≤ n ∧ n ≤ 200) → ev σ x = .func (.func 90) #[] #[.pointer (some ⟨g3, 0, none⟩)] → [y].map (ev σ) = [.slice A l.length c] →
      Sp Tryz.prog w w.heap.size ⟨d, .call { callee := .value x, args := [y].toArray, argTypes := ts }, ty, pos, af, gd⟩ σ L (Adds (fun v T => v = .tuple #[] ∧ T = blk g3 (.cells (encV (putsV S l true)) 145) :: R) L2) := by
    intro σ L R L2 d ty pos af gd x y ts A c l S h0 h1 h2 h3 h4 h5
    exact sp_callvw (fst := #[]) (vs := [Value.slice A l.length c]) (cap := #[.pointer (some ⟨g3, 0, none⟩)]) en_ir_Vars_1 (ir_Vars_1_ct (c := c) h1 h2 h3) h0 h4 h5 (by simp)
  refine Cd.seq ?_
  refine Cd.region ?_
  refine Ol.p mvf ?_
  refine Ol.p (fdl fd_api_Func_0) ?_
  refine Ol.p (ld one_L_int (Rd.blk (i := 1) rfl rfl)) ?_
  refine Ol.x (hnote (S := noS) (l := f.params) (R := []) (L2 := [blk g1 (.cells f.cells.toArray 37)]) (c := f.pC) (by rw [← hz]; exact .refl _) (RdS.slc hf.params) (by omega) hprm rfl rfl) ?_
  rintro _ _ ⟨_, rfl, rfl, rfl⟩
  refine Ol.nil ?_
  refine Cd.mid (fun σ' L' => Has σ' [(2, .slice none 0 0), (3, .pointer (some ⟨g3, 0, none⟩))] ∧ [blk g3 (.cells (encV (putsV noS (noteF f) true)) 145), blk g1 (.cells f.cells.toArray 37)] = L') ?_ ?_
  · refine Cd.seq ?_
    refine Cd.region ?_
    refine Ol.p (fdl fd_api_Func_1) ?_
    refine Ol.p (ld one_L_api_Block (Rd.blk (i := 1) rfl rfl)) ?_
    refine Ol.p (lens sl_L_api_Block) ?_
    refine Ol.p mvi ?_
    refine Ol.nil ?_
    refine Cd.block ?_   -- 0
    refine Cd.loop (fun m σ L => ∃ k, m = f.blocks.length - k ∧ k ≤ f.blocks.length ∧ Has σ [(2, .slice none 0 0), (3, .pointer (some ⟨g3, 0, none⟩)), (4, .func (.func 90) #[] #[.pointer (some ⟨g3, 0, none⟩)]), (23, .slice f.bA f.blocks.length f.bC), (24, .int .i64 f.blocks.length), (25, .int .i64 k)] ∧
      [blk g3 (.cells (encV (putsV noS (f.params ++ (f.blocks.take k).flatMap noteB) true)) 145), blk g1 (.cells f.cells.toArray 37)] = L) (n := f.blocks.length) ⟨0, rfl, Nat.zero_le _, ⟨rfl, rfl, rfl, rfl, rfl, rfl, trivial⟩, by simp⟩ ?_
    rintro _ σ L ⟨k, rfl, hk, hs, rfl⟩
    refine Cd.has hs ?_
    clear hs
    refine Cd.seq ?_
    refine Cd.region ?_
    refine Ol.p lsi ?_
    refine Ol.nil ?_
    refine Cd.seq ?_
    refine Cd.cond rfl (fun h => ?_) (fun h => ?_)   -- $26
    · have hlt : k < f.blocks.length := by
        simp only [decide_eq_true_eq] at h; omega
      obtain ⟨x, hx⟩ : ∃ x, f.blocks[k]? = some x := ⟨_, List.getElem?_eq_getElem hlt⟩
      have hxm := List.mem_of_getElem? hx
      have hxl := h64 x hxm
      have hnl := needsL_len x.term
      refine Cd.skip ?_
      refine Cd.seq ?_
      refine Cd.block ?_   -- 1
      refine Cd.seq ?_
      refine Cd.region ?_
      refine Ol.p (ixn (ix := k) sl_L_api_Block (Som.slc hf.blocks (by omega))) ?_
      refine Ol.p (lds (es := x.cells) ag_api_Block hf.blocks x.len (fun j u hu => blk_cell hx hu)) ?_
      refine Ol.x (alc zr_api_Block) ?_
      rintro _ _ ⟨g6, rfl, rfl⟩
      refine Ol.s (stw (vs := x.cells.toArray) sz_api_Block rfl x.one (i := 0) rfl rfl) ?_
      refine Ol.nil ?_
      obtain ⟨S0, hS0⟩ : ∃ S0, S0 = putsV noS (f.params ++ (f.blocks.take k).flatMap noteB) true := ⟨_, rfl⟩
      rw [← hS0]
      refine Cd.mid (fun σ' L' => Has σ' [(2, .slice none 0 0), (3, .pointer (some ⟨g3, 0, none⟩)), (4, .func (.func 90) #[] #[.pointer (some ⟨g3, 0, none⟩)]), (6, .pointer (some ⟨g6, 0, none⟩)), (23, .slice f.bA f.blocks.length f.bC), (24, .int .i64 f.blocks.length), (25, .int .i64 k)] ∧
        [blk g6 (.cells x.cells.toArray 34), blk g3 (.cells (encV (putsV S0 (x.ins.flatMap noteI) true)) 145), blk g1 (.cells f.cells.toArray 37)] = L') ?_ ?_
      · refine Cd.seq ?_
        refine Cd.region ?_
        refine Ol.p (fdl fd_api_Block_0) ?_
        refine Ol.p (ld one_L_api_Ins (Rd.blk (i := 0) rfl rfl)) ?_
        refine Ol.p (lens sl_L_api_Ins) ?_
        refine Ol.p mvi ?_
        refine Ol.nil ?_
        refine Cd.block ?_   -- 2
        refine Cd.loop (fun m σ L => ∃ j, m = x.ins.length - j ∧ j ≤ x.ins.length ∧ Has σ [(2, .slice none 0 0), (3, .pointer (some ⟨g3, 0, none⟩)), (4, .func (.func 90) #[] #[.pointer (some ⟨g3, 0, none⟩)]), (6, .pointer (some ⟨g6, 0, none⟩)), (23, .slice f.bA f.blocks.length f.bC), (24, .int .i64 f.blocks.length), (25, .int .i64 k), (30, .slice x.iA x.ins.length x.iC), (31, .int .i64 x.ins.length), (32, .int .i64 j)] ∧
          [blk g6 (.cells x.cells.toArray 34), blk g3 (.cells (encV (putsV S0 ((x.ins.take j).flatMap noteI) true)) 145), blk g1 (.cells f.cells.toArray 37)] = L) (n := x.ins.length) ⟨0, rfl, Nat.zero_le _, ⟨rfl, rfl, rfl, rfl, rfl, rfl, rfl, rfl, rfl, rfl, trivial⟩, rfl⟩ ?_
        rintro _ σ L ⟨j, rfl, hj, hs, rfl⟩
        refine Cd.has hs ?_
        clear hs
        refine Cd.seq ?_
        refine Cd.region ?_
        refine Ol.p lsi ?_
        refine Ol.nil ?_
        refine Cd.seq ?_
        refine Cd.cond rfl (fun h => ?_) (fun h => ?_)   -- $33
        · have hjl : j < x.ins.length := by
            simp only [decide_eq_true_eq] at h; omega
          obtain ⟨i, hi⟩ : ∃ i, x.ins[j]? = some i := ⟨_, List.getElem?_eq_getElem hjl⟩
          have him := List.mem_of_getElem? hi
          have hrl := readsL_len i
          have hal := hfit.alen x hxm i him
          have hia : ∀ {M : List Res} {w' : World}, Hp w w.heap.size M w' → InsAt w' i := fun hh => ⟨(hf.args x hxm i him).now hh, hal, hfit.insr x hxm i him i.callee (by simp)⟩
          have hnl2 : (noteI i).length = (readsL i).length + 1 := by simp [noteI]
          have hni : ints (readsL i) ++ [Value.int .i64 (defI i)] = ints (noteI i) := by simp [ints, noteI]
          refine Cd.skip ?_
          refine Cd.seq ?_
          refine Cd.block ?_   -- 3
          refine Cd.seq ?_
          refine Cd.region ?_
          refine Ol.p (ixn (ix := j) sl_L_api_Ins (Som.slc (hf.ins x hxm) (by omega))) ?_
          refine Ol.p (lds (es := i.cells) ag_api_Ins (hf.ins x hxm) i.len (fun j u hu => ins_cell hi hu)) ?_
          refine Ol.x (alc zr_api_Ins) ?_
          rintro _ _ ⟨g8, rfl, rfl⟩
          refine Ol.s (stw (vs := i.cells.toArray) sz_api_Ins rfl i.one (i := 0) rfl rfl) ?_
          refine Ol.nil ?_
          refine Cd.drawT (L0 := _) mixed 7 (fun opNo => match opNo with | 2 => some (NewL 3 1 (readsL i).length (ints (readsL i))) | 4 => some (Is (.int .i64 (defI i))) | 5 => some (NewSv 3 1 1 1 [.int .i64 (defI i)]) | 6 => some (NewL 3 1 (noteI i).length (ints (noteI i))) | _ => none) (fun opNo => match opNo with | 6 => [2, 5] | _ => []) (fun opNo => match opNo with | 6 => some 2 | _ => none) [] (fun _ => []) (by kernel_rfl) (.refl _) (by intro c hc; cases hc) (by intro q V h; split at h <;> cases h; exact ⟨_, _, none, 0, rfl, rfl⟩; exact ⟨_, [], rfl, rfl⟩; exact ⟨_, _, 0, rfl, rfl⟩; exact ⟨_, _, none, 0, rfl, rfl⟩) (fun u hu hu0 => ?_)
          refine WkT.p mvf ?_
          refine WkT.p (ldw ag_api_Ins (i := 0) rfl rfl) ?_
          refine WkT.xn (V := NewL 3 1 (readsL i).length (ints (readsL i))) (l := []) (l2 := []) hu rfl rfl rfl (by rw [needs_none]; exact (sp_call en_ir_Reads (fun M w' hh => ir_Reads_ct (hia hh)))) ?_
          rintro _ _ hu2 ⟨A38, c38, rfl, rfl⟩
          refine WkT.p (ldw ag_api_Ins (i := 0) rfl rfl) ?_
          refine WkT.xn (V := Is (.int .i64 (defI i))) (l := []) (l2 := []) hu rfl rfl rfl (by rw [needs_none]; exact (sp_call en_ir_Defines (fun M w' hh => ir_Defines_ct (hia hh)))) ?_
          rintro _ _ hu4 ⟨rfl, rfl⟩
          refine WkT.xn (V := NewSv 3 1 1 1 [.int .i64 (defI i)]) (l := []) (l2 := []) hu rfl rfl rfl (by rw [needs_none]; exact (NewS.adds (bsv [.int .i64 (defI i)] sl_L_int zr_int (by simp [Value.cells])))) ?_
          rintro _ _ hu5 ⟨g41, rfl, rfl⟩
          refine WkT.xn (V := NewL 3 1 (noteI i).length (ints (noteI i))) (l := [2, 5]) (l2 := [5]) hu rfl rfl rfl (by rw [needs_cons hu2, needs_cons hu5, needs_none]; exact (by rw [hnl2, ← hni]; exact Grow.adds (apn (i := 0) (m := 1) sl_L_int zr_int rfl (by decide) rfl (Src.row (i := 1) rfl rfl) (by intro u hu; simp at hu; subst hu; rfl) (by unfold maxLen; omega) (by omega)))) ?_
          rintro _ _ hu6 ⟨A42, c42, rfl, rfl⟩
          refine WkT.nil ?_
          change Ol _ _ _ _ _ (needs u [6, 5, 4] _)
          rw [needs_cons hu6, needs_cons hu5, needs_cons hu4, needs_none]
          refine Ol.x (hnote (S := putsV S0 ((x.ins.take j).flatMap noteI) true) (l := noteI i) (R := [row (.slice A42 (noteI i).length c42) 3 1 (noteI i).length (ints (noteI i))]) (L2 := [row (.slice (some ⟨g41, 0, none⟩) 1 1) 3 1 1 [.int .i64 (defI i)], blk g8 (.cells i.cells.toArray 25), blk g6 (.cells x.cells.toArray 34), blk g1 (.cells f.cells.toArray 37)]) (perm_count fun _ x => by simp only [List.count_append, List.count_cons, List.count_nil, List.cons_append, List.nil_append]; omega) (RdS.row (i := 0) rfl) (by omega) (fun n hn => noteI_range hn) rfl rfl) ?_
          rintro _ _ ⟨_, rfl, rfl, rfl⟩
          refine Ol.keep (keep_count (L' := [blk g6 (.cells x.cells.toArray 34), blk g3 (.cells (encV (putsV (putsV S0 ((x.ins.take j).flatMap noteI) true) (noteI i) true)) 145), blk g1 (.cells f.cells.toArray 37)]) [row (.slice A42 (noteI i).length c42) 3 1 (noteI i).length (ints (noteI i)), row (.slice (some ⟨g41, 0, none⟩) 1 1) 3 1 1 [.int .i64 (defI i)], blk g8 (.cells i.cells.toArray 25)] fun _ x => by simp only [List.count_append, List.count_cons, List.count_nil, List.cons_append, List.nil_append]; omega) ?_
          refine Ol.nil ?_
          refine Cd.region ?_
          refine Ol.p addi ?_
          refine Ol.p mvi ?_
          refine Ol.nil ?_
          refine ⟨x.ins.length - (j + 1), by omega, j + 1, rfl, by omega, ⟨rfl, rfl, rfl, rfl, rfl, rfl, rfl, rfl, rfl, rfl, trivial⟩, ?_⟩
          rw [take_snoc_ hi, List.flatMap_append, putsV_app]
          simp
        have hje : j = x.ins.length := by
          simp only [decide_eq_false_iff_not] at h; omega
        refine Cd.exit (id := 2) ⟨⟨rfl, rfl, rfl, rfl, rfl, rfl, rfl, trivial⟩, ?_⟩
        rw [hje, List.take_of_length_le (Nat.le_refl _)]
      rintro σ' _ ⟨hs', rfl⟩
      refine Cd.has hs' ?_
      clear hs'
      refine Cd.region ?_
      refine Ol.p mvf ?_
      refine Ol.p (fdl fd_api_Block_1) ?_
      refine Ol.p (ldp (k := 0 + 1) (vs := x.term.cells.toArray) ag_api_Term (i := 0) rfl rfl (fun j u hu => by rw [Nat.zero_add, Nat.add_comm]; simpa [RBlk.cells] using hu)) ?_
      refine Ol.x (sp_call en_ir_Needs (fun M w' hh => ir_Needs_ct (t := x.term))) ?_
      rintro _ _ ⟨_, rfl, A48, c48, rfl, rfl⟩
      refine Ol.x (hnote (S := putsV S0 (x.ins.flatMap noteI) true) (l := needsL x.term) (R := [row (.slice A48 (needsL x.term).length c48) 3 1 (needsL x.term).length (ints (needsL x.term))]) (L2 := [blk g6 (.cells x.cells.toArray 34), blk g1 (.cells f.cells.toArray 37)]) (perm_count fun _ x => by simp only [List.count_append, List.count_cons, List.count_nil, List.cons_append, List.nil_append]; omega) (RdS.row (i := 0) rfl) (by omega) (fun n hn => by have := needsL_mem hn; omega) rfl rfl) ?_
      rintro _ _ ⟨_, rfl, rfl, rfl⟩
      refine Ol.keep (.sub (.cons_cons _ (.cons _ (.cons _ (List.Sublist.refl _))))) ?_
      refine Ol.nil ?_
      refine Cd.region ?_
      refine Ol.p addi ?_
      refine Ol.p mvi ?_
      refine Ol.nil ?_
      refine ⟨f.blocks.length - (k + 1), by omega, k + 1, rfl, by omega, ⟨rfl, rfl, rfl, rfl, rfl, rfl, trivial⟩, ?_⟩
      rw [take_snoc_ hx, List.flatMap_append, ← List.append_assoc, putsV_app, ← hS0, ← putsV_app]
      simp [noteB]
    have hke : k = f.blocks.length := by
      simp only [decide_eq_false_iff_not] at h; omega
    refine Cd.exit (id := 0) ⟨⟨rfl, rfl, trivial⟩, ?_⟩
    rw [hke, List.take_of_length_le (Nat.le_refl _)]
    rfl
  rintro σ' _ ⟨hs', rfl⟩
  refine Cd.has hs' ?_
  clear hs'
  obtain ⟨S, hS⟩ : ∃ S, S = putsV noS (noteF f) true := ⟨_, rfl⟩
  rw [← hS]
  refine Cd.nr 3 1 ?_
  refine Cd.mid (fun σ' L' => ∃ A c, Has σ' [(2, .slice A (varsTo S 200).length c)] ∧ row (.slice A (varsTo S 200).length c) 3 1 (varsTo S 200).length (intsN (varsTo S 200)) :: [blk g3 (.cells (encV S) 145), blk g1 (.cells f.cells.toArray 37)] = L') ?_ ?_
  · refine Cd.seq ?_
    refine Cd.region ?_
    refine Ol.p asi ?_
    refine Ol.nil ?_
    refine Cd.block ?_   -- 4
    refine Cd.loop (fun m σ L => ∃ k A c, m = 200 - k ∧ k ≤ 200 ∧ Has σ [(2, .slice A (varsTo S k).length c), (3, .pointer (some ⟨g3, 0, none⟩)), (9, .int .i64 ((k : Int) + 1))] ∧ row (.slice A (varsTo S k).length c) 3 1 (varsTo S k).length (intsN (varsTo S k)) :: [blk g3 (.cells (encV S) 145), blk g1 (.cells f.cells.toArray 37)] = L) (n := 200) ⟨0, none, 0, rfl, Nat.zero_le _, ⟨rfl, rfl, rfl, trivial⟩, rfl⟩ ?_
    rintro _ σ L ⟨k, A, c, rfl, hk, hs, rfl⟩
    have hvl := varsTo_len S k
    have ek : (k : Int) + 1 = ((k + 1 : Nat) : Int) := by omega
    rw [ek] at hs
    refine Cd.has hs ?_
    clear hs
    refine Cd.seq ?_
    refine Cd.seq ?_
    refine Cd.region ?_
    refine Ol.p mvi ?_
    refine Ol.p lsi ?_
    refine Ol.nil ?_
    refine Cd.cond rfl (fun h => ?_) (fun h => ?_)   -- $52
    · have hlt : k + 1 < 201 := by
        simp only [decide_eq_true_eq] at h; omega
      refine Cd.skip ?_
      refine Cd.seq ?_
      refine Cd.block ?_   -- 5
      refine Cd.seq ?_
      refine Cd.region ?_
      refine Ol.p mvi ?_
      refine Ol.p (ixl1 (ix := k + 1) ar_ir_set) ?_
      refine Ol.p (ld one_bool (Rd.blk (i := 1) rfl (encV_get (i := k + 1) (by omega)))) ?_
      refine Ol.nil ?_
      have hsucc := varsTo_succ S k
      refine Cd.cond rfl (fun h2 => ?_) (fun h2 => ?_)   -- $57
      · skip
        refine Cd.region ?_
        refine Ol.p mvs ?_
        refine Ol.p mvi ?_
        refine Ol.x (bsv [.int .i64 ((k + 1 : Nat) : Int)] sl_L_int zr_int (by simp [Value.cells])) ?_
        rintro _ _ ⟨g60, rfl, rfl⟩
        refine Ol.x (apn (i := 1) (m := 1) sl_L_int zr_int rfl (by decide) rfl (Src.row (i := 0) rfl rfl) (by intro u hu; simp at hu; subst hu; rfl) (by unfold maxLen; omega) (by omega)) ?_
        rintro _ _ ⟨A', c', rfl, rfl⟩
        refine Ol.p ass ?_
        refine Ol.keep (.sub (.cons _ (List.Sublist.refl _))) ?_
        refine Ol.nil ?_
        rw [if_pos h2] at hsucc
        have e1 : (varsTo S k).length + 1 = (varsTo S (k + 1)).length := by rw [hsucc]; simp
        have e2 : intsN (varsTo S k) ++ [Value.int .i64 ((k + 1 : Nat) : Int)] = intsN (varsTo S (k + 1)) := by rw [hsucc]; simp [intsN]
        rw [e1, e2]
        refine Cd.region ?_
        refine Ol.p mvi ?_
        refine Ol.p addi ?_
        refine Ol.p asi ?_
        refine Ol.nil ?_
        exact ⟨200 - (k + 1), by omega, k + 1, A', c', rfl, by omega, ⟨rfl, rfl, rfl, trivial⟩, rfl⟩
      rw [if_neg (by rw [h2]; simp), List.append_nil] at hsucc
      refine Cd.skip ?_
      rw [← hsucc]
      refine Cd.region ?_
      refine Ol.p mvi ?_
      refine Ol.p addi ?_
      refine Ol.p asi ?_
      refine Ol.nil ?_
      exact ⟨200 - (k + 1), by omega, k + 1, A, c, rfl, by omega, ⟨rfl, rfl, rfl, trivial⟩, rfl⟩
    have hke : k = 200 := by
      simp only [decide_eq_false_iff_not] at h; omega
    subst hke
    exact Cd.exit (id := 4) ⟨A, c, ⟨rfl, trivial⟩, rfl⟩
  rintro σ' _ ⟨A, c, hs', rfl⟩
  refine Cd.has hs' ?_
  refine Cd.seq ?_
  refine Cd.region ?_
  refine Ol.p mvs ?_
  refine Ol.p ass ?_
  refine Ol.nil ?_
  exact Cd.ret ⟨_, ret1 rfl rfl, _, .sub (.cons_cons _ (.cons _ (.cons _ .slnil))), A, c, rfl, rfl⟩
end
section
theorem sizeF_ok {f : RFun} (h : okF f = true) : sizeF f = (f.blocks.map fun b => b.ins.length + 1).sum := by unfold sizeF; rw [h]; rfl
def szTo (f : RFun) (k : Nat) : Nat := ((f.blocks.take k).map fun b => b.ins.length + 1).sum
theorem szTo_succ {f : RFun} {k : Nat} {x : RBlk} (h : f.blocks[k]? = some x) : szTo f (k + 1) = szTo f k + (x.ins.length + 1) := by
  unfold szTo
  rw [take_snoc_ h]
  simp
theorem szTo_le {f : RFun} (h64 : ∀ b ∈ f.blocks, b.ins.length ≤ 64) : ∀ k, szTo f k ≤ k * 65
  | 0 => by simp [szTo]
  | k + 1 => by
    cases hx : f.blocks[k]? with
    | none =>
      have h1 := szTo_le h64 k
      have hl : f.blocks.length ≤ k := by simpa using hx
      have : szTo f (k + 1) = szTo f k := by unfold szTo; rw [List.take_of_length_le hl, List.take_of_length_le (by omega)]
      omega
    | some x =>
      have h1 := szTo_le h64 k
      have := h64 x (List.mem_of_getElem? hx)
      rw [szTo_succ hx]; omega
set_option maxHeartbeats 2000000 in
theorem ir_Size_ct {w : World} {f : RFun} (hf : FunAt w w.heap.size f) (hfit : Fit f) : Ct Tryz.prog 50 #[f.val] w (Is (.int .i64 (sizeF f : Nat))) := by
  have hbl := hfit.blen
  refine Ct.mk Tryz.func50 rfl rfl ?_
  refine Cd.seq ?_
  refine Cd.region ?_
  refine Ol.x bxg ?_
  rintro _ _ ⟨g1, rfl, rfl⟩
  refine Ol.p asi ?_
  refine Ol.nil ?_
  refine Cd.seq ?_
  cases hok : okF f with
  | false =>
    have hv : sizeF f = 0 := by unfold sizeF; rw [hok]; rfl
    rw [hv]
    refine Cd.mid (fun σ' L' => Has σ' [(11, .bool true)] ∧ [blk g1 (.cells f.cells.toArray 37)] = L') ?_ ?_
    · cases hl : longF f with
      | true =>
        refine Cd.region ?_
        refine Ol.p (ldw ag_api_Func (i := 0) rfl rfl) ?_
        refine Ol.s (cl en_ir_long (fun M w' hh => ir_long_ct (hf.now hh) hfit)) ?_
        refine Ol.p mvb ?_
        refine Ol.gn hl ?_
        refine Ol.gn hl ?_
        refine Ol.gn hl ?_
        refine Ol.p (pkTb hl) ?_
        refine Ol.nil ?_
        exact ⟨⟨rfl, trivial⟩, rfl⟩
      | false =>
        have hw : wholeF f = false := by unfold okF at hok; rw [hl] at hok; simpa using hok
        refine Cd.region ?_
        refine Ol.p (ldw ag_api_Func (i := 0) rfl rfl) ?_
        refine Ol.s (cl en_ir_long (fun M w' hh => ir_long_ct (hf.now hh) hfit)) ?_
        refine Ol.p mvb ?_
        refine Ol.gp hl (ldw ag_api_Func (i := 0) rfl rfl) ?_
        refine Ol.gs hl (cl en_ir_whole (fun M w' hh => ir_whole_ct (hf.now hh) hfit)) ?_
        refine Ol.gp hl noti ?_
        refine Ol.p (pkFb hl) ?_
        refine Ol.nil ?_
        exact ⟨⟨by show Value.bool _ = _; rw [hw]; rfl, trivial⟩, rfl⟩
    rintro σ' _ ⟨hs', rfl⟩
    refine Cd.has hs' ?_
    refine Cd.cond rfl (fun h => ?_) (fun h => by cases h)
    refine Cd.seq ?_
    refine Cd.region ?_
    refine Ol.p asi ?_
    refine Ol.nil ?_
    exact Cd.ret ⟨.int .i64 _, ret1 rfl rfl, [], .nil, rfl, rfl⟩
  | true =>
  obtain ⟨hl, hw⟩ := ok_parts hok
  obtain ⟨h0, h200, h8, h64⟩ := long_parts hl
  have hwb : (!wholeF f) = false := by rw [hw]; rfl
  refine Cd.seq ?_
  refine Cd.region ?_
  refine Ol.p (ldw ag_api_Func (i := 0) rfl rfl) ?_
  refine Ol.s (cl en_ir_long (fun M w' hh => ir_long_ct (hf.now hh) hfit)) ?_
  refine Ol.p mvb ?_
  refine Ol.gp hl (ldw ag_api_Func (i := 0) rfl rfl) ?_
  refine Ol.gs hl (cl en_ir_whole (fun M w' hh => ir_whole_ct (hf.now hh) hfit)) ?_
  refine Ol.gp hl noti ?_
  refine Ol.p (pkFb hl) ?_
  refine Ol.nil ?_
  refine Cd.cond rfl (fun h => by rw [hwb] at h; cases h) (fun h => ?_)
  refine Cd.skip ?_
  refine Cd.seq ?_
  refine Cd.seq ?_
  refine Cd.region ?_
  refine Ol.p (fdl fd_api_Func_1) ?_
  refine Ol.p (ld one_L_api_Block (Rd.blk (i := 0) rfl rfl)) ?_
  refine Ol.p (lens sl_L_api_Block) ?_
  refine Ol.p mvi ?_
  refine Ol.nil ?_
  refine Cd.block ?_
  refine Cd.loop (fun m σ L => ∃ k, m = f.blocks.length - k ∧ k ≤ f.blocks.length ∧ Has σ [(2, .int .i64 (szTo f k : Nat)), (13, .slice f.bA f.blocks.length f.bC), (14, .int .i64 f.blocks.length), (15, .int .i64 k)] ∧ [blk g1 (.cells f.cells.toArray 37)] = L) (n := f.blocks.length) ⟨0, rfl, Nat.zero_le _, ⟨rfl, rfl, rfl, rfl, trivial⟩, rfl⟩ ?_
  rintro _ σ L ⟨k, rfl, hk, hs, rfl⟩
  refine Cd.has hs ?_
  clear hs
  refine Cd.seq ?_
  refine Cd.region ?_
  refine Ol.p lsi ?_
  refine Ol.nil ?_
  refine Cd.seq ?_
  refine Cd.cond rfl (fun h => ?_) (fun h => ?_)
  · have hlt : k < f.blocks.length := by
      simp only [decide_eq_true_eq] at h; omega
    obtain ⟨x, hx⟩ : ∃ x, f.blocks[k]? = some x := ⟨_, List.getElem?_eq_getElem hlt⟩
    have hxm := List.mem_of_getElem? hx
    have hxl := h64 x hxm
    have hle := szTo_le h64 k
    have hsu := szTo_succ hx
    refine Cd.skip ?_
    refine Cd.seq ?_
    refine Cd.block ?_
    refine Cd.seq ?_
    refine Cd.region ?_
    refine Ol.p (ixn (ix := k) sl_L_api_Block (Som.slc hf.blocks (by omega))) ?_
    refine Ol.p (lds (es := x.cells) ag_api_Block hf.blocks x.len (fun j u hu => blk_cell hx hu)) ?_
    refine Ol.x (alc zr_api_Block) ?_
    rintro _ _ ⟨g4, rfl, rfl⟩
    refine Ol.s (stw (vs := x.cells.toArray) sz_api_Block rfl x.one (i := 0) rfl rfl) ?_
    refine Ol.nil ?_
    refine Cd.region ?_
    refine Ol.p mvi ?_
    refine Ol.p (fdl fd_api_Block_0) ?_
    refine Ol.p (ld one_L_api_Ins (Rd.blk (i := 0) rfl rfl)) ?_
    refine Ol.p (lens sl_L_api_Ins) ?_
    refine Ol.p addi ?_
    refine Ol.p addi ?_
    refine Ol.p asi ?_
    refine Ol.keep (.sub (.cons _ (List.Sublist.refl _))) ?_
    refine Ol.nil ?_
    refine Cd.region ?_
    refine Ol.p addi ?_
    refine Ol.p mvi ?_
    refine Ol.nil ?_
    exact ⟨f.blocks.length - (k + 1), by omega, k + 1, rfl, by omega, ⟨congrArg (Value.int .i64) (by rw [hsu]; omega), rfl, rfl, rfl, trivial⟩, rfl⟩
  have hke : k = f.blocks.length := by
    simp only [decide_eq_false_iff_not] at h; omega
  refine Cd.exit (id := 0) ?_
  refine Cd.seq ?_
  refine Cd.region ?_
  refine Ol.p mvi ?_
  refine Ol.p asi ?_
  refine Ol.nil ?_
  refine Cd.ret ⟨.int .i64 _, ret1 rfl rfl, [], .nil, ?_, rfl⟩
  rw [sizeF_ok hok, hke]
  unfold szTo
  rw [List.take_of_length_le (Nat.le_refl _)]
end
end Go.Proofs.YtcojedoejpcolaaGreat

