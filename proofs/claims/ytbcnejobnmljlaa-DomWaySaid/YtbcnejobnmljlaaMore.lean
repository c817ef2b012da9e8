/- More operations: variables in blocks of one cell, parts of values, equality of plain values, values that are built. Over any program. -/
import Derived.Test.YtbcnejobnmljlaaRange
import Derived.ChangeKeysEq
namespace Go.Proofs.Ytbcnejobnmljlaa
set_option linter.unusedVariables false
open Go Go.RowKit

/-- A call's result that is known, with nothing left. -/
def Is (v : Value) : Value → List Res → Prop := fun v' R => v' = v ∧ R = []
section
variable {P : Program} {w0 : World} {B : Nat} {σ : Env} {L : List Res} {d : Option Nat} {ty T : TypeId} {pos : String} {af : Array Edge} {gd : Option (Nat × Bool)} {x y z : Operand} {v : Value}
/-- A call whose value is known, and that leaves nothing. -/
theorem cl {f : FuncId} {xs : List Operand} {vs : List Value} {ts : Array TypeId} (he : Ent P f) (hc : ∀ M w, Hp w0 B (M ++ L) w → Ct P f vs.toArray w (Is v)) (ha : xs.map (ev σ) = vs := by exact rfl) :
    Sp P w0 B ⟨d, .call { callee := .value (.func f), args := xs.toArray, argTypes := ts }, ty, pos, af, gd⟩ σ L (det v L) := fun M w hh => by
  refine Goes.mono (sp_call (d := d) (ty := ty) (pos := pos) (af := af) (gd := gd) (ts := ts) he hc ha M w hh) ?_
  rintro v' w' ⟨L', hh', T', rfl, rfl, rfl⟩
  exact ⟨L, by simpa using hh', rfl, rfl⟩
/-! variables of one cell -/
theorem ldv {i g : Nat} {e : TypeId} {fz : Nat × Nat} (hT : OneT P T) (hi : L[i]? = some (blk g (.cells #[v] e fz))) (hx : ev σ x = .pointer (some ⟨g, 0, none⟩) := by exact rfl) : Sd P w0 B ⟨d, .load T x, ty, pos, af, gd⟩ σ L v :=
  ld hT (Rd.blk hi rfl) hx
theorem stv {i g : Nat} {u : Value} {e : TypeId} (hT : (P.info? T).map (·.size) = some 1) (hi : L[i]? = some (blk g (.cells #[u] e))) (hy : ev σ y = v) (h1 : v.cells = #[v] := by exact rfl) (ho : v.oneCell' = true := by exact rfl) (hx : ev σ x = .pointer (some ⟨g, 0, none⟩) := by exact rfl) :
    Sp P w0 B ⟨d, .store T x y, ty, pos, af, gd⟩ σ L (det undef (L.set i (blk g (.cells #[v] e)))) :=
  sto (k := 0) (.inr hT) h1 ho hi (by simp) hy hx
/-! parts of values -/
theorem run_part_one {t : TypeId} {cs : Array Value} {off : Nat} (hT : OneT P t) (hv : cs[off]? = some v) (w : World) : (part t cs off).run P w = .ok v w := by
  simp [part, run_isAgg_one hT, hv]
theorem run_part_agg {t n : Nat} {cs : Array Value} {off : Nat} (hT : AggT P t n) (w : World) : (part t cs off).run P w = .ok (.agg (cs.extract off (off + n))) w := by
  simp [part, run_isAgg_agg hT, run_size hT.2]
theorem ixv {n e k : Nat} {ik : IntKind} {cs : Array Value} (hT : ArT P T n e 1) (he : OneT P e) (hk : k < n) (hv : cs[k]? = some v) (hx : ev σ x = .agg cs := by exact rfl) (hy : ev σ y = .int ik (k : Int) := by exact rfl) :
    Sd P w0 B ⟨d, .index T x y, ty, pos, af, gd⟩ σ L v := sp_val fun w => by
  have h1 : (0 : Int) ≤ (k : Int) ∧ (k : Int) < (n : Int) := by omega
  simp [execOp, hx, hy, Instr.index, asIntOf, run_underlying hT.1, hk, run_size hT.2, run_part_one he hv]
def fieldV (P : Program) (T i : Nat) : Option (Nat × Nat) := match P.underlying T with
  | some (.struct fs) => (fs[i]?).map fun f => (f.offset, f.type)
  | _ => none
theorem run_fieldV {i off t : Nat} {cs : Array Value} (hT : fieldV P T i = some (off, t)) (w : World) : (Instr.field T (.agg cs) i).run P w = (part t cs off).run P w := by
  unfold fieldV at hT
  split at hT
  · rename_i fs hu
    cases hf : fs[i]? with
    | none => simp [hf] at hT
    | some f =>
      simp only [hf, Option.map_some, Option.some.injEq, Prod.mk.injEq] at hT
      simp [Instr.field, run_underlying hu, hf, asAgg, hT.1, hT.2]
  · cases hT
theorem fdv {i off t : Nat} {cs : Array Value} (hT : fieldV P T i = some (off, t)) (ho : OneT P t) (hv : cs[off]? = some v) (hx : ev σ x = .agg cs := by exact rfl) : Sd P w0 B ⟨d, .field T x i, ty, pos, af, gd⟩ σ L v := sp_val fun w => by
  simp [execOp, hx, run_fieldV hT, run_part_one ho hv]
theorem fdg {i off t n : Nat} {cs : Array Value} (hT : fieldV P T i = some (off, t)) (ho : AggT P t n) (hx : ev σ x = .agg cs := by exact rfl) : Sd P w0 B ⟨d, .field T x i, ty, pos, af, gd⟩ σ L (.agg (cs.extract off (off + n))) := sp_val fun w => by
  simp [execOp, hx, run_fieldV hT, run_part_agg ho]
/-! equality -/
theorem run_eq_prim {e : TypeId} {kd : TypeDesc} {a b : Value} {r : Bool} {dd : Nat} (hu : P.underlying e = some kd) (h : Instr.sameNow kd a b = some r) (w : World) : (Op.equalIn (dd + 1) e a b).run P w = .ok r w := by
  unfold Instr.sameNow at h
  split at h
  · split at h
    · rename_i hk
      cases h
      simp [Op.equalIn, run_underlying hu, hk]
    · cases h
  · cases h; simp [Op.equalIn, run_underlying hu]
  · cases h; simp [Op.equalIn, run_underlying hu]
  · cases h
def primT (P : Program) (e : TypeId) (kd : TypeDesc) : Prop := P.underlying e = some kd ∧ flat kd = true ∧ (P.info? e).map (·.size) = some 1
theorem primT.one {e : TypeId} {kd : TypeDesc} (h : primT P e kd) : OneT P e := ⟨kd, h.1, h.2.1⟩
/-- Cells that are told apart as they are. -/
def Tell (kd : TypeDesc) (a b : Value) : Prop := ∃ r, Instr.sameNow kd a b = some r ∧ (r = true ↔ a = b)
theorem Tell.int {k q : IntKind} {a b : Int} : Tell (.int q) (.int k a) (.int k b) := ⟨a == b, by simp [Instr.sameNow], by simp⟩
theorem Tell.bool {a b : Bool} : Tell .bool (.bool a) (.bool b) := ⟨a == b, rfl, by simp⟩
theorem run_eqItems_prim {e : TypeId} {kd : TypeDesc} {xs ys : Array Value} {dd : Nat} (he : primT P e kd) (w : World) : ∀ is : List Nat, (∀ i ∈ is, ∃ a b, xs[i]? = some a ∧ ys[i]? = some b ∧ Tell kd a b) → ∀ r : Bool, (r = true ↔ ∀ i ∈ is, xs[i]? = ys[i]?) → (Op.eqItems (dd + 1) e 1 xs ys is).run P w = .ok r w
  | [], _, r, hr => by
    have : r = true := hr.2 (by simp)
    simp [Op.eqItems, this]
  | i :: is, h, r, hr => by
    obtain ⟨a, b, ha, hb, q, hs, hq⟩ := h i (by simp)
    have h1 := run_eq_prim (dd := dd) he.1 hs w
    have p1 : (part e xs (i * 1)).run P w = .ok a w := run_part_one he.one (by simpa using ha) w
    have p2 : (part e ys (i * 1)).run P w = .ok b w := run_part_one he.one (by simpa using hb) w
    simp only [Op.eqItems, Sem.run_bind, p1, p2, h1, Result.andThen_ok]
    cases q with
    | true =>
      have hab : a = b := hq.1 rfl
      have ih := run_eqItems_prim (dd := dd) he w is (fun j hj => h j (by simp [hj])) r (by
        rw [hr]
        simp [ha, hb, hab])
      simpa using ih
    | false =>
      have hab : a ≠ b := fun e => by have := hq.2 e; cases this
      have : r = false := by
        cases r with
        | false => rfl
        | true =>
          have := hr.1 rfl i (by simp)
          rw [ha, hb] at this
          exact absurd (Option.some.inj this) hab
      simp [this]
theorem run_equal_arr {n : Nat} {e : TypeId} {kd : TypeDesc} {xs ys : Array Value} {r : Bool} (hT : P.underlying T = some (.array n e)) (he : primT P e kd) (hx : xs.size = n) (hy : ys.size = n) (h : ∀ (i : Nat) a b, xs[i]? = some a → ys[i]? = some b → Tell kd a b) (hr : r = true ↔ xs = ys) (w : World) : (Op.equal T (.agg xs) (.agg ys)).run P w = .ok r w := by
  obtain ⟨i, hi, hs⟩ := info_of he.2.2
  have hc : P.cellsOf e = 1 := by simp [Program.cellsOf, hi, hs]
  have := run_equalIn_array (P := P) w 9999 xs ys hT hi
  rw [hc, run_eqItems_prim (dd := 9998) he w (List.range n) (fun i hi => by
    have hi : i < n := by simpa using hi
    exact ⟨xs[i], ys[i], Array.getElem?_eq_getElem _, Array.getElem?_eq_getElem _, h i _ _ (Array.getElem?_eq_getElem (by omega)) (Array.getElem?_eq_getElem (by omega))⟩) r (by
    rw [hr]
    constructor
    · rintro rfl i _; rfl
    · intro h
      apply Array.ext_getElem?
      intro i
      by_cases hi : i < n
      · exact h i (by simpa using hi)
      · rw [Array.getElem?_eq_none (by omega), Array.getElem?_eq_none (by omega)])] at this
  exact this
theorem eqGuard_agg {op : BinOp} {a b : Array Value} (h : P.eqGuardType P.depth T = false) {w : World} : (eqGuard op T x y (.agg a) (.agg b)).run P w = .ok () w := by
  cases op <;> simp [eqGuard, h]
/-- What must be so of an array's type, that its values may be compared. -/
def CmA (P : Program) (T n : Nat) (kd : TypeDesc) : Prop := ∃ e, P.underlying T = some (.array n e) ∧ primT P e kd ∧ P.eqGuardType P.depth T = false
theorem eqa {u : TypeId} {n : Nat} {kd : TypeDesc} {xs ys : Array Value} {r : Bool} (hT : CmA P T n kd) (hxs : xs.size = n) (hys : ys.size = n) (h : ∀ (i : Nat) a b, xs[i]? = some a → ys[i]? = some b → Tell kd a b) (hr : r = true ↔ xs = ys) (hx : ev σ x = .agg xs := by exact rfl) (hy : ev σ y = .agg ys := by exact rfl) :
    Sd P w0 B ⟨d, .binOp .eql T x y u, ty, pos, af, gd⟩ σ L (.bool r) := sp_val fun w => by
  obtain ⟨e, h1, h2, h3⟩ := hT
  simp [execOp, hx, hy, binOp, eqGuard_agg h3, run_equal_arr h1 h2 hxs hys h hr]
theorem nea {u : TypeId} {n : Nat} {kd : TypeDesc} {xs ys : Array Value} {r : Bool} (hT : CmA P T n kd) (hxs : xs.size = n) (hys : ys.size = n) (h : ∀ (i : Nat) a b, xs[i]? = some a → ys[i]? = some b → Tell kd a b) (hr : r = true ↔ xs = ys) (hx : ev σ x = .agg xs := by exact rfl) (hy : ev σ y = .agg ys := by exact rfl) :
    Sd P w0 B ⟨d, .binOp .neq T x y u, ty, pos, af, gd⟩ σ L (.bool (!r)) := sp_val fun w => by
  obtain ⟨e, h1, h2, h3⟩ := hT
  simp [execOp, hx, hy, binOp, eqGuard_agg h3, run_equal_arr h1 h2 hxs hys h hr]
/-! values that are built -/
def stB (P : Program) (T : TypeId) : Option (List (Nat × Nat)) := match P.underlying T with
  | some (.struct fs) => bif fs.toList.all (fun f => (P.info? f.type).isSome) then some (fs.toList.map fun f => (f.offset, P.cellsOf f.type)) else none
  | _ => none
theorem run_places (w : World) : ∀ fs : List Field, fs.all (fun f => (P.info? f.type).isSome) = true → (fs.mapM fun f => (do pure (f.offset, ← sizeOf f.type) : Sem (Nat × Nat))).run P w = .ok (fs.map fun f => (f.offset, P.cellsOf f.type)) w
  | [], _ => by simp
  | f :: fs, h => by
    simp only [List.all_cons, Bool.and_eq_true] at h
    obtain ⟨i, hi⟩ := Option.isSome_iff_exists.1 h.1
    have ih := run_places w fs h.2
    rw [List.mapM_cons]
    simp only [Sem.run_bind, run_sizeOf w hi, Result.andThen_ok, ih, Sem.run_pure, List.map_cons]
theorem bds {parts : List (Nat × Operand)} {pv : List (Nat × Value)} {zv : Value} {cs : Array Value} {pl : List (Nat × Nat)} (hb : stB P T = some pl) (hz : ZrT P T zv) (hp : parts.map (fun p => (p.1, ev σ p.2)) = pv := by exact rfl) (hf : Instr.fill (fun i => pl[i]?) zv.cells pv = some cs := by rfl) :
    Sd P w0 B ⟨d, .build T parts.toArray, ty, pos, af, gd⟩ σ L (.agg cs) := sp_val fun w => by
  unfold stB at hb
  split at hb
  · rename_i fs hu
    cases ha : fs.toList.all (fun f => (P.info? f.type).isSome) with
    | false => simp [ha] at hb
    | true =>
      simp only [ha, cond_true, Option.some.injEq] at hb
      have h1 := run_places (P := P) w fs.toList ha
      have h2 : (fs.mapM fun f => (do pure (f.offset, ← sizeOf f.type) : Sem (Nat × Nat))).run P w = .ok (fs.toList.map fun f => (f.offset, P.cellsOf f.type)).toArray w := by
        obtain ⟨l, rfl⟩ : ∃ l : List Field, fs = l.toArray := ⟨fs.toList, by simp⟩
        rw [List.mapM_toArray, Sem.run_map, h1]
        rfl
      have hmap : (parts.toArray.map fun (i, x) => (i, ev σ x)).toList = pv := by simpa using hp
      simp only [execOp, Instr.build, Sem.run_bind, run_zero hz, Result.andThen_ok, run_underlying hu, h2]
      rw [hmap]
      have h3 : (fun (i : Nat) => ((fs.toList.map fun f => (f.offset, P.cellsOf f.type)).toArray)[i]?) = fun (i : Nat) => pl[i]? := by
        funext i
        rw [← hb]; simp
      rw [h3, hf]
      simp
  · cases hb
theorem bda {n e s : Nat} {parts : List (Nat × Operand)} {pv : List (Nat × Value)} {zv : Value} {cs : Array Value} (hT : ArT P T n e s) (hz : ZrT P T zv) (hp : parts.map (fun p => (p.1, ev σ p.2)) = pv := by exact rfl) (hf : Instr.fill (fun i => some (i * s, s)) zv.cells pv = some cs := by rfl) :
    Sd P w0 B ⟨d, .build T parts.toArray, ty, pos, af, gd⟩ σ L (.agg cs) := sp_val fun w => by
  have hmap : (parts.toArray.map fun (i, x) => (i, ev σ x)).toList = pv := by simpa using hp
  simp only [execOp, Instr.build, Sem.run_bind, run_zero hz, Result.andThen_ok, run_underlying hT.1, run_size hT.2]
  rw [hmap, hf]
  simp
/-! a slice's literal, all its elements in turn -/
theorem foldl_set : ∀ (l : List Value) (off j : Nat) (cs : Array Value), off + j + l.length ≤ cs.size →
    ((l.zipIdx j).foldl (fun cs (x : Value × Nat) => cs.setIfInBounds (off + x.2) x.1) cs).toList = cs.toList.take (off + j) ++ l ++ cs.toList.drop (off + j + l.length)
  | [], off, j, cs, _ => by simp
  | u :: l, off, j, cs, h => by
    simp only [List.length_cons] at h
    rw [List.zipIdx_cons, List.foldl_cons, foldl_set l off (j + 1) _ (by simp; omega)]
    simp only [Array.toList_setIfInBounds]
    have e1 : (cs.toList.set (off + j) u).take (off + (j + 1)) = cs.toList.take (off + j) ++ [u] := by
      rw [show off + (j + 1) = (off + j) + 1 from by omega, List.take_succ_eq_append_getElem (by simp; omega)]
      simp [List.take_set_of_le]
    have e2 : (cs.toList.set (off + j) u).drop (off + (j + 1) + l.length) = cs.toList.drop (off + j + (l.length + 1)) := by
      rw [List.drop_set_of_lt (by omega)]
      congr 1
      omega
    rw [e1, e2]
    simp
theorem fill_all {s : Nat} : ∀ (vs : List Value) (k : Nat) (cs : Array Value), (∀ v ∈ vs, v.cells.size = s) → (k + vs.length) * s ≤ cs.size →
    ∃ r, Instr.fill (fun i => some (i * s, s)) cs ((List.range' k vs.length).zip vs) = some r ∧ r.toList = cs.toList.take (k * s) ++ vs.flatMap (fun v => v.cells.toList) ++ cs.toList.drop ((k + vs.length) * s)
  | [], k, cs, _, _ => ⟨cs, by simp [Instr.fill], by simp⟩
  | v :: vs, k, cs, h1, h2 => by
    have hv : v.cells.size = s := h1 v (by simp)
    simp only [List.length_cons] at h2
    have h3 : (k + (vs.length + 1)) * s = k * s + s + vs.length * s := by rw [Nat.add_mul, Nat.add_mul]; omega
    have hfit : k * s + s ≤ cs.size := by omega
    obtain ⟨c2, hc2⟩ : ∃ c2, c2 = v.cells.zipIdx.foldl (fun cs (x : Value × Nat) => cs.setIfInBounds (k * s + x.2) x.1) cs := ⟨_, rfl⟩
    have hl : c2.toList = cs.toList.take (k * s) ++ v.cells.toList ++ cs.toList.drop (k * s + s) := by
      rw [hc2, ← Array.foldl_toList, Array.toList_zipIdx]
      have := foldl_set v.cells.toList (k * s) 0 cs (by simp; omega)
      simpa [hv] using this
    have hsz : c2.size = cs.size := by
      rw [← Array.length_toList, hl]
      simp [hv]; omega
    obtain ⟨r, hr, hrl⟩ := fill_all vs (k + 1) c2 (fun u hu => h1 u (by simp [hu])) (by rw [hsz, Nat.add_mul, Nat.add_mul]; omega)
    refine ⟨r, ?_, ?_⟩
    · simp only [List.length_cons, List.range'_succ, List.zip_cons_cons, Instr.fill, hv, ne_eq, not_true_eq_false]
      rw [if_neg (by simp; omega), ← hc2]
      exact hr
    · rw [hrl, hl]
      have e1 : (cs.toList.take (k * s) ++ v.cells.toList ++ cs.toList.drop (k * s + s)).take ((k + 1) * s) = cs.toList.take (k * s) ++ v.cells.toList := by
        rw [List.take_append_of_le_length (by simp [hv]; rw [Nat.add_mul]; omega), List.take_of_length_le (by simp [hv]; rw [Nat.add_mul]; omega)]
      have e2 : (cs.toList.take (k * s) ++ v.cells.toList ++ cs.toList.drop (k * s + s)).drop ((k + 1 + vs.length) * s) = cs.toList.drop ((k + (vs.length + 1)) * s) := by
        rw [List.drop_append, List.drop_eq_nil_of_le (by simp [hv]; rw [Nat.add_mul, Nat.add_mul]; omega), List.nil_append, List.drop_drop]
        congr 1
        simp [hv]
        rw [Nat.min_eq_left (by omega), h3, Nat.add_mul, Nat.add_mul]
        omega
      rw [e1, e2]
      simp
/-- A literal of a slice, its elements in turn. -/
theorem bsn {e s b n : Nat} {parts : List (Nat × Operand)} {zv : Value} (vs : List Value) (hT : SlT P T e s b) (hz : ZrT P e zv) (hvs : ∀ v ∈ vs, v.cells.size = s) (hn : vs.length = n) (hb : n * s ≤ 16777216) (hm : n ≤ maxLen) (hp : parts.map (fun p => (p.1, ev σ p.2)) = (List.range' 0 n).zip vs := by exact rfl) :
    Sp P w0 B ⟨d, .buildSlice T n parts.toArray, ty, pos, af, gd⟩ σ L (NewS e s n n (vs.flatMap (fun v => v.cells.toList)) L) := by
  subst hn
  obtain ⟨cs, hcs⟩ : ∃ cs, cs = (if vs.length * s = 0 then (#[] : Array Value) else (Array.range (vs.length * s)).map (zv.cells[· % zv.cells.size]!)) := ⟨_, rfl⟩
  have hsz : cs.size = vs.length * s := by
    rw [hcs]; split
    · rename_i h; simp [h]
    · simp
  obtain ⟨r, hr, hrl⟩ := fill_all (s := s) vs 0 cs hvs (by rw [hsz]; simp)
  have hrl2 : r.toList = vs.flatMap (fun v => v.cells.toList) := by
    rw [hrl]
    simp [List.drop_eq_nil_of_le, hsz]
  have hrs : r.size = vs.length * s := by
    rw [← Array.length_toList, hrl, List.length_append, List.length_append]
    have hfm : ∀ l : List Value, (∀ v ∈ l, v.cells.size = s) → (l.flatMap (fun v => v.cells.toList)).length = l.length * s := by
      intro l hl
      induction l with
      | nil => simp
      | cons a l ih =>
        rw [List.flatMap_cons, List.length_append, ih (fun v hv => hl v (by simp [hv])), List.length_cons, Nat.add_mul, Array.length_toList, hl a (by simp)]
        omega
    rw [hfm vs hvs]
    simp [hsz]
  rw [← hrl2]
  exact bsl hT hz (by rw [← hcs]; exact hr) hb hrs hm hp
theorem flat_one : ∀ vs : List Value, (∀ v ∈ vs, v.cells = #[v]) → vs.flatMap (fun v => v.cells.toList) = vs
  | [], _ => rfl
  | v :: vs, h => by rw [List.flatMap_cons, flat_one vs (fun u hu => h u (by simp [hu])), h v (by simp)]; rfl
/-- The same, of elements of one cell. -/
theorem bsv {e b n : Nat} {parts : List (Nat × Operand)} {zv : Value} (vs : List Value) (hT : SlT P T e 1 b) (hz : ZrT P e zv) (hvs : ∀ v ∈ vs, v.cells = #[v]) (hn : vs.length = n := by rfl) (hb : n * 1 ≤ 16777216 := by decide) (hm : n ≤ maxLen := by decide) (hp : parts.map (fun p => (p.1, ev σ p.2)) = (List.range' 0 n).zip vs := by exact rfl) :
    Sp P w0 B ⟨d, .buildSlice T n parts.toArray, ty, pos, af, gd⟩ σ L (NewS e 1 n n vs L) := by
  have := bsn (d := d) (ty := ty) (pos := pos) (af := af) (gd := gd) (P := P) (w0 := w0) (B := B) (L := L) vs hT hz (fun v hv => by rw [hvs v hv]; rfl) hn hb hm hp
  rwa [flat_one vs hvs] at this
end
end Go.Proofs.Ytbcnejobnmljlaa
