/- Maps of integers to values of one cell. Over any program. -/
import Derived.Test.YtbcnejobnmljlaaMem
namespace Go.Proofs.Ytbcnejobnmljlaa
set_option linter.unusedVariables false
open Go Go.RowKit

/-- The entry's key is this number. -/
def isKey (k : Int) (e : MapEntry) : Bool := match e.key with
  | .int .i64 j => decide (k = j)
  | _ => false
def AllI (es : List MapEntry) : Prop := ∀ e ∈ es, ∃ j, e.key = .int .i64 j
/-- What a map holds under a number. -/
def mget (es : List MapEntry) (k : Int) : Option Value := (es.find? (isKey k)).map (·.val)
theorem findNow_int (k : Int) : ∀ (es : List MapEntry) (n : Nat), AllI es → ∃ r, Instr.findNow (.int .i64) (.int .i64 k) es n = some r ∧ ((r = none ∧ es.find? (isKey k) = none) ∨ ∃ i e, r = some (n + i, e.val) ∧ es[i]? = some e ∧ isKey k e = true ∧ es.find? (isKey k) = some e ∧ ∀ j e', j < i → es[j]? = some e' → isKey k e' = false)
  | [], n, _ => ⟨none, rfl, .inl ⟨rfl, rfl⟩⟩
  | e :: es, n, h => by
    obtain ⟨j, hj⟩ := h e (by simp)
    have hk : isKey k e = decide (k = j) := by unfold isKey; rw [hj]
    by_cases hkj : k = j
    · subst hkj
      refine ⟨some (n, e.val), ?_, .inr ⟨0, e, rfl, rfl, by simp [hk], by simp [hk], fun j e' h => by omega⟩⟩
      unfold Instr.findNow
      simp [hj, Instr.sameNow]
    · obtain ⟨r, hr, hc⟩ := findNow_int k es (n + 1) (fun e he => h e (by simp [he]))
      refine ⟨r, ?_, ?_⟩
      · unfold Instr.findNow
        have : (k == j) = false := by simp [hkj]
        simp [hj, Instr.sameNow, this, hr]
      · rcases hc with ⟨rfl, hf⟩ | ⟨i, e', rfl, h1, h2, h3, h4⟩
        · exact .inl ⟨rfl, by simp [hk, hkj, hf]⟩
        · refine .inr ⟨i + 1, e', by rw [show n + 1 + i = n + (i + 1) by omega], by simpa using h1, h2, by simp [hk, hkj, h3], ?_⟩
          intro j' e'' hj' he''
          cases j' with
          | zero => simp at he''; subst he''; simp [hk, hkj]
          | succ j' => exact h4 j' e'' (by omega) (by simpa using he'')
section
variable {P : Program} {w0 : World} {B : Nat} {σ : Env} {L : List Res} {d : Option Nat} {ty T : TypeId} {pos : String} {af : Array Edge} {gd : Option (Nat × Bool)} {x y z : Operand} {v : Value}
def MpT (P : Program) (T : TypeId) (zv : Value) : Prop := ∃ k e, P.underlying T = some (.map k e) ∧ P.underlying k = some (.int .i64) ∧ ZrT P e zv
def NewM (L : List Res) : Value → List Res → Prop := fun v L' => ∃ g, v = .map (some g) ∧ L' = blk g (.map #[] 0) :: L
theorem mkm : Sp P w0 B ⟨d, .makeMap T none, ty, pos, af, gd⟩ σ L (NewM L) := fun M w hh => by
  refine .inl ⟨.map (some w.heap.size), w.alloc (.map #[] 0), ?_, _, hh.newBlk _, w.heap.size, rfl, rfl⟩
  simp [execOp, Instr.makeMap]
theorem run_getObj {w : World} {g cl : Nat} {es : Array MapEntry} (h : w.heap[g]? = some (.map es cl)) : (getObj g).run P w = .ok (.map es cl) w := by simp [getObj, Sem.run, h]
theorem run_setObj {w : World} {g cl : Nat} {es : Array MapEntry} {o' : Obj} (h : w.heap[g]? = some (.map es cl)) : (setObj g o').run P w = .ok () (w.putObj g o') := by simp [setObj, Sem.run, h, World.putObj]
theorem run_checkKey_int {k : TypeId} {b : Bool} {n : Int} (h : P.underlying k = some (.int .i64)) (w : World) : (Instr.checkKey b 10000 k (.int .i64 n)).run P w = .ok () w := by
  show (Instr.checkKey b (9999 + 1) k (.int .i64 n)).run P w = .ok () w
  unfold Instr.checkKey
  simp [run_underlying h]
theorem run_findKey_int {k : TypeId} {n : Int} {es : List MapEntry} {r : Option (Nat × Value)} (h : P.underlying k = some (.int .i64)) (hr : Instr.findNow (.int .i64) (.int .i64 n) es 0 = some r) (w : World) : (Instr.findKey k (.int .i64 n) es).run P w = .ok r w := by
  unfold Instr.findKey
  simp [run_underlying h, hr]
theorem lkm {i g : Nat} {es : Array MapEntry} {cl : Nat} {n : Int} {zv : Value} (hT : MpT P T zv) (hi : L[i]? = some (blk g (.map es cl))) (ha : AllI es.toList) (hx : ev σ x = .map (some g) := by exact rfl) (hy : ev σ y = .int .i64 n := by exact rfl) :
    Sd P w0 B ⟨d, .lookup T x y false, ty, pos, af, gd⟩ σ L ((mget es.toList n).getD zv) := sp_read fun M w hh => by
  obtain ⟨k, e, h1, h2, h3⟩ := hT
  have hg : w.heap[g]? = some (.map es cl) := hh.at_ hi
  obtain ⟨r, hr, hc⟩ := findNow_int n es.toList 0 ha
  have hf := run_findKey_int (P := P) h2 hr w
  have hck := run_checkKey_int (P := P) (b := es.isEmpty) (n := n) h2 w
  simp only [execOp, hx, hy, Instr.lookup, Sem.run_bind, run_underlying h1, Result.andThen_ok, run_getObj hg, Sem.run_pure, hck, hf]
  rcases hc with ⟨rfl, hn⟩ | ⟨j, e', rfl, _, _, h3', _⟩
  · simp [run_zero h3, mget, hn]
  · simp [mget, h3']
/-- The same where what is found is known. -/
theorem lkn {i g : Nat} {es : Array MapEntry} {cl : Nat} {n : Int} {zv : Value} (hT : MpT P T zv) (hi : L[i]? = some (blk g (.map es cl))) (ha : AllI es.toList) (hv : (mget es.toList n).getD zv = v) (hx : ev σ x = .map (some g) := by exact rfl) (hy : ev σ y = .int .i64 n := by exact rfl) :
    Sd P w0 B ⟨d, .lookup T x y false, ty, pos, af, gd⟩ σ L v := by
  subst hv; exact lkm hT hi ha hx hy
/-- In a map that came in. -/
theorem lkw {g : Nat} {es : Array MapEntry} {cl : Nat} {n : Int} {zv : Value} (hT : MpT P T zv) (hb : g < B) (hg : w0.heap[g]? = some (.map es cl)) (ha : AllI es.toList) (hv : (mget es.toList n).getD zv = v) (hx : ev σ x = .map (some g) := by exact rfl) (hy : ev σ y = .int .i64 n := by exact rfl) :
    Sd P w0 B ⟨d, .lookup T x y false, ty, pos, af, gd⟩ σ L v := sp_read fun M w hh => by
  obtain ⟨k, e, h1, h2, h3⟩ := hT
  have hg : w.heap[g]? = some (.map es cl) := (hh.below.block g hb).trans hg
  obtain ⟨r, hr, hc⟩ := findNow_int n es.toList 0 ha
  have hf := run_findKey_int (P := P) h2 hr w
  have hck := run_checkKey_int (P := P) (b := es.isEmpty) (n := n) h2 w
  subst hv
  simp only [execOp, hx, hy, Instr.lookup, Sem.run_bind, run_underlying h1, Result.andThen_ok, run_getObj hg, Sem.run_pure, hck, hf]
  rcases hc with ⟨rfl, hn⟩ | ⟨j, e', rfl, _, _, h3', _⟩
  · simp [run_zero h3, mget, hn]
  · simp [mget, h3']
theorem modify_get {es : List MapEntry} {i : Nat} {e : MapEntry} {v : Value} {k : Int} (h : es[i]? = some e) (hk : isKey k e = true) (hb : ∀ j e', j < i → es[j]? = some e' → isKey k e' = false) (m : Int) :
    mget (es.modify i fun e => { e with key := .int .i64 k, val := v }) m = if m = k then some v else mget es m := by
  induction es generalizing i with
  | nil => simp at h
  | cons a es ih =>
    cases i with
    | zero =>
      simp at h
      subst h
      have hkey : a.key = .int .i64 k := by
        unfold isKey at hk
        split at hk
        · rename_i j hj; rw [hj]; have := of_decide_eq_true hk; rw [this]
        · cases hk
      simp only [List.modify_zero_cons, mget, List.find?_cons]
      by_cases hm : m = k
      · subst hm
        have : isKey m { a with key := .int .i64 m, val := v } = true := by simp [isKey]
        rw [this]; simp
      · have h1 : isKey m { a with key := .int .i64 k, val := v } = false := by simp [isKey, hm]
        have h2 : isKey m a = false := by simp [isKey, hkey, hm]
        rw [h1, h2]; simp [hm]
    | succ i =>
      have h0 := hb 0 a (by omega) rfl
      have ih' := ih (by simpa using h) (fun j e' hj he' => hb (j + 1) e' (by omega) (by simpa using he'))
      simp only [List.modify_succ_cons, mget, List.find?_cons]
      cases hma : isKey m a with
      | true =>
        have : m ≠ k := fun e => by subst e; rw [hma] at h0; cases h0
        simp [this]
      | false =>
        simp only [mget] at ih'
        exact ih'
theorem push_get {es : List MapEntry} {v : Value} {k : Int} {c : Nat} (h : es.find? (isKey k) = none) (m : Int) : mget (es ++ [{ key := .int .i64 k, val := v, born := c }]) m = if m = k then some v else mget es m := by
  unfold mget
  rw [List.find?_append]
  by_cases hm : m = k
  · subst hm
    rw [h]; simp [isKey]
  · have : isKey m { key := .int .i64 k, val := v, born := c } = false := by simp [isKey, hm]
    simp [hm, this]
/-- A map that holds v under k besides. -/
def Upd (g i : Nat) (es : Array MapEntry) (k : Int) (v : Value) (L : List Res) : Value → List Res → Prop := fun _ L' => ∃ es' cl', L' = L.set i (blk g (.map es' cl')) ∧ AllI es'.toList ∧ ∀ m, mget es'.toList m = if m = k then some v else mget es.toList m
theorem upm {i g : Nat} {es : Array MapEntry} {cl : Nat} {n : Int} {zv : Value} (hT : MpT P T zv) (hi : L[i]? = some (blk g (.map es cl))) (ha : AllI es.toList) (hz : ev σ z = v) (hx : ev σ x = .map (some g) := by exact rfl) (hy : ev σ y = .int .i64 n := by exact rfl) :
    Sp P w0 B ⟨d, .mapUpdate T x y z, ty, pos, af, gd⟩ σ L (Upd g i es n v L) := fun M w hh => by
  obtain ⟨k, e, h1, h2, h3⟩ := hT
  have hg : w.heap[g]? = some (.map es cl) := hh.at_ hi
  have hlt := (Array.getElem?_eq_some_iff.1 hg).1
  obtain ⟨r, hr, hc⟩ := findNow_int n es.toList 0 ha
  have hf := run_findKey_int (P := P) h2 hr w
  have hck := run_checkKey_int (P := P) (b := false) (n := n) h2 w
  rcases hc with ⟨rfl, hn⟩ | ⟨j, e', rfl, hj1, hj2, hj3, hj4⟩
  · refine .inr (.inl ⟨w.putObj g (.map (es.push { key := .int .i64 n, val := v, born := cl }) (cl + 1)), ?_, _, hh.set (r' := blk g (.map (es.push { key := .int .i64 n, val := v, born := cl }) (cl + 1))) hi (Stp.putObj w g _) (World.putObj_heap_same hlt) (fun _ h => .inl h), _, _, rfl, ?_, ?_⟩)
    · simp only [execOp, hx, hy, hz, Instr.mapUpdate, Sem.run_bind, run_underlying h1, Result.andThen_ok, run_getObj hg, hck, hf, run_setObj hg, Sem.run_pure]
    · intro e he
      simp only [Array.toList_push, List.mem_append, List.mem_singleton] at he
      rcases he with he | rfl
      · exact ha e he
      · exact ⟨n, rfl⟩
    · intro m
      rw [Array.toList_push]
      exact push_get hn m
  · have hsame : Instr.sameBits 10000 (.int .i64 n) (.int .i64 n) = true := by simp [Instr.sameBits]
    have hkey : e'.key = .int .i64 n := by
      unfold isKey at hj2
      split at hj2
      · rename_i j hj; rw [hj]; have := of_decide_eq_true hj2; rw [this]
      · cases hj2
    have hold : ((es[j]?).map (·.key)).getD (.int .i64 n) = .int .i64 n := by
      have : es[j]? = some e' := by rw [← Array.getElem?_toList]; exact hj1
      rw [this]; simp [hkey]
    refine .inr (.inl ⟨w.putObj g (.map (es.modify j fun e => { e with key := .int .i64 n, val := v }) cl), ?_, _, hh.set (r' := blk g (.map (es.modify j fun e => { e with key := .int .i64 n, val := v }) cl)) hi (Stp.putObj w g _) (World.putObj_heap_same hlt) (fun _ h => .inl h), _, _, rfl, ?_, ?_⟩)
    · simp only [execOp, hx, hy, hz, Instr.mapUpdate, Sem.run_bind, run_underlying h1, Result.andThen_ok, run_getObj hg, hck, hf, Nat.zero_add, hold, Instr.keyThatStays, hsame, if_true, run_setObj hg, Sem.run_pure]
    · intro e he
      rw [Array.toList_modify] at he
      obtain ⟨i', hi', rfl⟩ := List.getElem_of_mem he
      rw [List.getElem_modify]
      split
      · exact ⟨n, rfl⟩
      · exact ha _ (List.getElem_mem _)
    · intro m
      rw [Array.toList_modify]
      exact modify_get hj1 hj2 hj4 m
end
end Go.Proofs.Ytbcnejobnmljlaa
