/- Blocks of one's own behind a slice; the order of a walk in depth. -/
import Derived.Test.YtbcnejobnmljlaaReach
import Derived.Test.YtbcnejobnmljlaaBits2
namespace Go.Proofs.Ytbcnejobnmljlaa
set_option linter.unusedVariables false
open Go Go.RowKit

/-- A row of one's own is a block. -/
theorem Hp.unrow {w0 w : World} {B g n c e s : Nat} {M L : List Res} {xs : List Value} (h : Hp w0 B (M ++ (row (.slice (some ⟨g, 0, none⟩) n c) e s n xs :: L)) w) : ∃ cs : Array Value, cs.size = c * s ∧ cs.toList.take (n * s) = xs ∧ Hp w0 B (M ++ (blk g (.cells cs e) :: L)) w := by
  have hr : w.ownsRow 0 e s (.slice (some ⟨g, 0, none⟩) n c) n xs := h.has (row (.slice (some ⟨g, 0, none⟩) n c) e s n xs) (by simp)
  rcases hr.2 with ⟨h1, _⟩ | ⟨g', cap, cur, hv, _, hg, _, _, hs, ht⟩
  · cases h1
  · injection hv with h1 _ h3
    cases h1
    subst h3
    refine ⟨cur, hs, ht, ?_⟩
    exact Hp.set0 (r := row (.slice (some ⟨g, 0, none⟩) n c) e s n xs) (r' := blk g (.cells cur e)) h (Stp.refl _ _) hg (fun k hk => by
      have : k = g := hk
      subst this
      simp [row, Value.ownBlock])
theorem Cd.unrow {C : Ctx} {x : Code} {Q : Exit → Env → List Res → Prop} {σ : Env} {L : List Res} {g n c e s : Nat} {xs : List Value} (h : ∀ cs : Array Value, cs.size = c * s → cs.toList.take (n * s) = xs → Cd C x Q σ (blk g (.cells cs e) :: L)) : Cd C x Q σ (row (.slice (some ⟨g, 0, none⟩) n c) e s n xs :: L) := fun a w ha hs => by
  obtain ⟨cs, h1, h2, h3⟩ := Hp.unrow hs.heap
  exact h cs h1 h2 a w ha ⟨hs.size, h3⟩
theorem Ol.unrow {C : Ctx} {all : Array Oper} {l : List Oper} {K : Env → List Res → Prop} {σ : Env} {L : List Res} {g n c e s : Nat} {xs : List Value} (h : ∀ cs : Array Value, cs.size = c * s → cs.toList.take (n * s) = xs → Ol C all l K σ (blk g (.cells cs e) :: L)) : Ol C all l K σ (row (.slice (some ⟨g, 0, none⟩) n c) e s n xs :: L) := fun a w Q ha hs hq => by
  obtain ⟨cs, h1, h2, h3⟩ := Hp.unrow hs.heap
  exact h cs h1 h2 a w Q ha ⟨hs.size, h3⟩ hq
section
variable {P : Program} {w0 : World} {B : Nat} {σ : Env} {L : List Res} {d : Option Nat} {ty T : TypeId} {pos : String} {af : Array Edge} {gd : Option (Nat × Bool)} {x y z : Operand} {v : Value}
/-- An element of a slice that lies in a block that is known. -/
theorem ixo {k : IntKind} {ix n c e s b g off : Nat} (hT : SlT P T e s b) (hx : ev σ x = .slice (some ⟨g, off, none⟩) n c := by exact rfl) (hy : ev σ y = .int k (ix : Int) := by exact rfl) (h : ix < n := by omega) :
    Sd P w0 B ⟨d, .indexAddr T x y, ty, pos, af, gd⟩ σ L (.pointer (some ⟨g, off + ix * s, none⟩)) := by
  have := ixn (d := d) (ty := ty) (pos := pos) (af := af) (gd := gd) (P := P) (w0 := w0) (B := B) (L := L) hT Som.lit hx hy h
  have e1 : ap (some (⟨g, off, none⟩ : Addr)) (ix * s) = ⟨g, off + ix * s, none⟩ := by simp [ap, add_lit_]
  rwa [e1] at this
theorem ixo1 {k : IntKind} {ix n c e b g : Nat} (hT : SlT P T e 1 b) (hx : ev σ x = .slice (some ⟨g, 0, none⟩) n c := by exact rfl) (hy : ev σ y = .int k (ix : Int) := by exact rfl) (h : ix < n := by omega) :
    Sd P w0 B ⟨d, .indexAddr T x y, ty, pos, af, gd⟩ σ L (.pointer (some ⟨g, ix, none⟩)) := by
  have := ixo (d := d) (ty := ty) (pos := pos) (af := af) (gd := gd) (P := P) (w0 := w0) (B := B) (L := L) hT hx hy h
  rwa [Nat.mul_one, Nat.zero_add] at this
end
/-- What can be read of a slice, whoever is called, while L is held. -/
def RdS (w0 : World) (B : Nat) (L : List Res) (s : Nat) (A : Option Addr) (n : Nat) (xs : List Value) : Prop := ∀ M w, Hp w0 B (M ++ L) w → Reads w w.heap.size s A n xs
section
variable {w0 : World} {B s n c i : Nat} {L L' : List Res} {A : Option Addr} {xs : List Value}
theorem RdS.slc (h : Reads w0 B s A n xs) : RdS w0 B L s A n xs := fun M w hh => h.now hh
theorem RdS.row {e : TypeId} (hi : L[i]? = some (row (.slice A n c) e s n xs)) : RdS w0 B L s A n xs := fun M w hh => Reads.row hh hi
theorem RdS.keep (h : RdS w0 B L s A n xs) (hk : Keep L' L) : RdS w0 B L' s A n xs := fun M w hh => h M w (hk.hp hh)
theorem RdS.more (h : RdS w0 B L s A n xs) {r : Res} : RdS w0 B (r :: L) s A n xs := h.keep (.sub (.cons _ (List.Sublist.refl _)))
theorem RdS.nil : RdS w0 B L s A 0 [] := fun M w hh => ⟨by simp, fun h => by omega⟩
theorem RdS.blk {g k : Nat} {cs : Array Value} {e : TypeId} {fz : Nat × Nat} (hi : L[i]? = some (blk g (.cells cs e fz))) (hl : xs.length = n) (hx : ∀ j u, xs[j]? = some u → cs[k + j]? = some u) : RdS w0 B L 1 (some ⟨g, k, none⟩) n xs := fun M w hh => Reads.blk hh hi hl hx
theorem Rd.rds {k : Nat} {v : Value} (h : RdS w0 B L s A n xs) (hk : xs[k]? = some v) : Rd w0 B L (ap A k) v := fun M w hh => by
  have hr := h M w hh
  have hn : 0 < n := by
    rcases Nat.eq_zero_or_pos n with h0 | h0
    · have hl := hr.1
      rw [h0, Nat.zero_mul] at hl
      rw [List.eq_nil_of_length_eq_zero hl] at hk
      simp at hk
    · exact h0
  obtain ⟨ad, rfl, _, hc⟩ := hr.2 hn
  exact hc k v hk
theorem Som.rds (h : RdS w0 B L s A n xs) (hn : 0 < n) : Som w0 B L A := fun M w hh => by
  obtain ⟨ad, rfl, _⟩ := (h M w hh).2 hn; rfl
end
/-- A slice that is handed over: in a block, from some place on; or empty. -/
def PartL (e n : Nat) (xs : List Value) : Value → List Res → Prop := fun v L => (n = 0 ∧ xs = [] ∧ v = .slice none 0 0 ∧ L = []) ∨ ∃ g k c cs, v = .slice (some ⟨g, k, none⟩) n c ∧ L = [blk g (.cells cs e)] ∧ xs.length = n ∧ ∀ j u, xs[j]? = some u → cs[k + j]? = some u
theorem PartL.get {e n : Nat} {xs : List Value} {v : Value} {L : List Res} (h : PartL e n xs v L) : ∃ A c, v = .slice A n c ∧ ∀ w0 B, RdS w0 B L 1 A n xs := by
  rcases h with ⟨rfl, rfl, rfl, rfl⟩ | ⟨g, k, c, cs, rfl, rfl, hl, hx⟩
  · exact ⟨none, 0, rfl, fun _ _ => RdS.nil⟩
  · exact ⟨_, c, rfl, fun _ _ => RdS.blk (i := 0) rfl hl hx⟩
theorem slo {P : Program} {w0 : World} {B : Nat} {σ : Env} {L : List Res} {d : Option Nat} {ty T : TypeId} {pos : String} {af : Array Edge} {gd : Option (Nat × Bool)} {x y : Operand} {g off n c e s b l : Nat} {k : IntKind} (hT : SlT P T e s b) (hl : l ≤ n) (hc : l < c) (hx : ev σ x = .slice (some ⟨g, off, none⟩) n c := by exact rfl) (hy : ev σ y = .int k (l : Int) := by exact rfl) :
    Sd P w0 B ⟨d, .slice T x (some y) none none, ty, pos, af, gd⟩ σ L (.slice (some ⟨g, off + l * s, none⟩) (n - l) (c - l)) := by
  have := sll (d := d) (ty := ty) (pos := pos) (af := af) (gd := gd) (P := P) (w0 := w0) (B := B) (L := L) hT hl hx hy
  rw [if_neg (by omega)] at this
  simpa [add_lit_] using this
theorem made_ints (n : Nat) : (madeCells #[.int .i64 0] (n * 1)).toList.take (n * 1) = List.replicate n (.int .i64 0) := by
  rw [Nat.mul_one, List.take_of_length_le (by simp [madeCells])]
  apply List.ext_getElem?
  intro i
  by_cases h : i < n
  · simp [madeCells, h]
    rw [Nat.mod_one]; rfl
  · simp [madeCells, h]

/-! ### A walk in depth -/
abbrev Dst := Nat × List Nat
def dfs (ts : List Tm) : Nat → Nat → Dst → Dst
  | 0, _, st => st
  | n + 1, b, st => bif st.1.testBit b then st else
    let r := (toAt ts b).foldl (fun st t => dfs ts n t.toNat st) (withL st.1 [(b : Int)], st.2)
    (r.1, b :: r.2)
def orderF (ts : List Tm) : List Nat := bif closed ts then (dfs ts (ts.length + 1) 0 (0, [])).2 else []
def card (s n : Nat) : Nat := (upto s n).length
theorem card_le (s n : Nat) : card s n ≤ n := upto_len_le s n
theorem testBit_with1 (s b i : Nat) (hb : b < 1024) : (withL s [(b : Int)]).testBit i = (s.testBit i || decide (i = b)) := by
  rw [testBit_withL]
  by_cases h : i = b
  · subst h
    have : okN (i : Int) = true := by rw [okN_iff]; omega
    simp [this]
  · have h1 : ([(b : Int)].contains (i : Int)) = false := by simp; omega
    rw [h1]; simp [h]
theorem sub_with1 (s b : Nat) : Sub s (withL s [(b : Int)]) := fun i hi => by rw [testBit_withL, hi]; rfl
theorem card_with1 {s b n : Nat} (hb : b < n) (hn : n ≤ 1024) (h : s.testBit b = false) : card s n < card (withL s [(b : Int)]) n :=
  upto_len_lt (sub_with1 s b) h (by rw [testBit_with1 s b b (by omega)]; simp) n hb
theorem card_mono {s t n : Nat} (h : Sub s t) : card s n ≤ card t n := upto_len_mono h n
def outC (n : Nat) (acc : List Nat) : Array Value := (List.replicate (n - acc.length) (Value.int .i64 0) ++ intsN acc).toArray
theorem outC_size {n : Nat} {acc : List Nat} (h : acc.length ≤ n) : (outC n acc).size = n := by simp [outC, intsN]; omega
theorem outC_nil (n : Nat) {cs : Array Value} (h1 : cs.size = n * 1) (h2 : cs.toList.take (n * 1) = (madeCells #[.int .i64 0] (n * 1)).toList.take (n * 1)) : cs = outC n [] := by
  apply Array.ext'
  rw [made_ints, List.take_of_length_le (by simp; omega)] at h2
  rw [h2]; simp [outC, intsN]
theorem outC_cons {n b : Nat} {acc : List Nat} (h : acc.length < n) : (outC n acc).setIfInBounds (n - (acc.length + 1)) (.int .i64 (b : Int)) = outC n (b :: acc) := by
  apply Array.ext'
  unfold outC
  rw [Array.toList_setIfInBounds]
  have e : n - acc.length = (n - (acc.length + 1)) + 1 := by omega
  simp only [List.length_cons, e, List.replicate_succ', List.append_assoc]
  rw [List.set_append_right _ _ (by simp)]
  simp [intsN]
end Go.Proofs.Ytbcnejobnmljlaa
