/- Structs of numbers, compared. -/
import Derived.Test.YtbcnejobnmljlaaTypes
import Derived.Test.YtbcnejobnmljlaaApp
import Derived.Test.YtbcnejobnmljlaaSet
import Derived.Laws.StructEq
namespace Go.Proofs.Ytbcnejobnmljlaa
set_option linter.unusedVariables false
open Go Go.RowKit
section
variable {P : Program} {w0 : World} {B : Nat} {σ : Env} {L : List Res} {d : Option Nat} {ty T : TypeId} {pos : String} {af : Array Edge} {gd : Option (Nat × Bool)} {x y z : Operand} {v : Value}
theorem run_eqFields_prim {xs ys : Array Value} {dd : Nat} (w : World) : ∀ fs : List Field, (∀ f ∈ fs, f.name ≠ "_" ∧ ∃ kd a b, primT P f.type kd ∧ xs[f.offset]? = some a ∧ ys[f.offset]? = some b ∧ Tell kd a b) → ∀ r : Bool, (r = true ↔ ∀ f ∈ fs, xs[f.offset]? = ys[f.offset]?) → (Op.eqFields (dd + 1) xs ys fs).run P w = .ok r w
  | [], _, r, hr => by
    have : r = true := hr.2 (by simp)
    simp [Op.eqFields, this]
  | f :: fs, h, r, hr => by
    obtain ⟨hn, kd, a, b, he, ha, hb, q, hs, hq⟩ := h f (by simp)
    have h1 := run_eq_prim (dd := dd) he.1 hs w
    have p1 : (part f.type xs f.offset).run P w = .ok a w := run_part_one he.one ha w
    have p2 : (part f.type ys f.offset).run P w = .ok b w := run_part_one he.one hb w
    simp only [Op.eqFields, hn, ne_eq, not_false_eq_true, if_true, Sem.run_bind, p1, p2, h1, Result.andThen_ok]
    cases q with
    | true =>
      have hab : a = b := hq.1 rfl
      have ih := run_eqFields_prim (dd := dd) w fs (fun j hj => h j (by simp [hj])) r (by
        rw [hr]
        simp [ha, hb, hab])
      simpa using ih
    | false =>
      have hab : a ≠ b := fun e => by have := hq.2 e; cases this
      have : r = false := by
        cases r with
        | false => rfl
        | true =>
          have := hr.1 rfl f (by simp)
          rw [ha, hb] at this
          exact absurd (Option.some.inj this) hab
      simp [this]
/-- A struct of n numbers. -/
def stI (P : Program) (T n : Nat) : Bool := match P.underlying T with
  | some (.struct fs) => fs.toList.all (fun f => (f.name != "_") && ((match P.underlying f.type with | some (.int _) => true | _ => false) && decide ((P.info? f.type).map (·.size) = some 1))) && decide (fs.toList.map (·.offset) = List.range n) && !P.stoodInHeld T && !P.eqGuardType P.depth T
  | _ => false
theorem run_equal_ints {n : Nat} {a b : List Int} (hT : stI P T n = true) (ha : a.length = n) (hb : b.length = n) (w : World) : (Op.equal T (.agg (ints a).toArray) (.agg (ints b).toArray)).run P w = .ok (decide (a = b)) w ∧ P.eqGuardType P.depth T = false := by
  unfold stI at hT
  split at hT
  · rename_i fs hu
    simp only [Bool.and_eq_true, List.all_eq_true, Bool.not_eq_true', decide_eq_true_eq] at hT
    obtain ⟨⟨⟨h1, h2⟩, h3⟩, h4⟩ := hT
    refine ⟨?_, h4⟩
    have hf : P.fieldsOf T = fs := by simp [Program.fieldsOf, hu]
    have := run_equalIn_struct (P := P) w 9999 T (ints a).toArray (ints b).toArray (by rw [hf]; exact hu) h3
    have e : (Op.equal T (.agg (ints a).toArray) (.agg (ints b).toArray)).run P w = (Op.equalIn (9999 + 1) T (.agg (ints a).toArray) (.agg (ints b).toArray)).run P w := rfl
    rw [e, this, hf]
    have hoff : ∀ f ∈ fs.toList, f.offset < n := fun f hf => by
      have : f.offset ∈ fs.toList.map (·.offset) := List.mem_map.2 ⟨f, hf, rfl⟩
      rw [h2] at this
      simpa using this
    have hall : ∀ i, i < n → ∃ f ∈ fs.toList, f.offset = i := fun i hi => by
      have : i ∈ fs.toList.map (·.offset) := by rw [h2]; simpa using hi
      simpa using this
    have hget : ∀ (l : List Int) (i : Nat) (hi : i < l.length), ((ints l).toArray)[i]? = some (.int .i64 l[i]) := fun l i hi => by simp [ints, hi]
    apply run_eqFields_prim (dd := 9998)
    · intro f hf
      obtain ⟨h5, h6, h7⟩ := h1 f hf
      refine ⟨by simpa using h5, ?_⟩
      have ho := hoff f hf
      split at h6
      · rename_i k hk
        exact ⟨.int k, _, _, ⟨hk, rfl, h7⟩, hget a _ (by omega), hget b _ (by omega), Tell.int⟩
      · cases h6
    · rw [decide_eq_true_iff]
      constructor
      · rintro rfl f _; rfl
      · intro h
        apply List.ext_getElem (by omega)
        intro i hi hj
        obtain ⟨f, hf, rfl⟩ := hall i (by omega)
        have := h f hf
        rw [hget a _ hi, hget b _ hj] at this
        simpa using this
  · cases hT
theorem eqs {u : TypeId} {n : Nat} {a b : List Int} (hT : stI P T n = true) (ha : a.length = n) (hb : b.length = n) (hx : ev σ x = .agg (ints a).toArray := by exact rfl) (hy : ev σ y = .agg (ints b).toArray := by exact rfl) :
    Sd P w0 B ⟨d, .binOp .eql T x y u, ty, pos, af, gd⟩ σ L (.bool (decide (a = b))) := sp_val fun w => by
  obtain ⟨h1, h2⟩ := run_equal_ints hT ha hb w
  simp [execOp, hx, hy, binOp, eqGuard_agg h2, h1]
theorem nes {u : TypeId} {n : Nat} {a b : List Int} (hT : stI P T n = true) (ha : a.length = n) (hb : b.length = n) (hx : ev σ x = .agg (ints a).toArray := by exact rfl) (hy : ev σ y = .agg (ints b).toArray := by exact rfl) :
    Sd P w0 B ⟨d, .binOp .neq T x y u, ty, pos, af, gd⟩ σ L (.bool (!decide (a = b))) := sp_val fun w => by
  obtain ⟨h1, h2⟩ := run_equal_ints hT ha hb w
  simp [execOp, hx, hy, binOp, eqGuard_agg h2, h1]
end
theorem st_api_Edge : stI Try.prog 32 3 = true := by kernel_rfl
end Go.Proofs.Ytbcnejobnmljlaa
