/- Lists of structs that came in, opened. -/
import Derived.Test.YtbcnejobnmljlaaOpen
import Derived.Test.YtbcnejobnmljlaaModel
import Derived.Deep.Slices
namespace Go.Proofs.Ytbcnejobnmljlaa
set_option linter.unusedVariables false
open Go Go.ChangeShapes Go.WideShapes Go.ChangeAt Go.RowKit
set_option maxRecDepth 100000

section
variable {H : Type} {enc : TypeId × Value → H} {P : Program} {w : World}
/-- What came in is not endless. -/
def Lean_ (P : Program) (t : TypeId) (d : DataW H) : Prop := ∀ n ∈ d.weights P t, n ≤ reachBytes
theorem weightsAll_mem {P : Program} {e : TypeId} {d : DataW H} {n : Nat} (hn : n ∈ d.weights P e) : ∀ {l : List (DataW H)}, d ∈ l → n ∈ DataW.weightsAll P e l
  | x :: l, h => by
    simp only [DataW.weightsAll, List.mem_append]
    rcases List.mem_cons.1 h with rfl | h
    · exact .inl hn
    · exact .inr (weightsAll_mem hn h)
theorem lean_slice {t e : TypeId} {a b : List (DataW H)} (ht : P.underlying t = some (.slice e)) (h : Lean_ P t (.slice a b)) : (a.length + b.length) * P.bytesOf e ≤ reachBytes ∧ ∀ d ∈ a, Lean_ P e d := by
  unfold Lean_ at h
  simp only [DataW.weights, ht, List.mem_cons, List.mem_append] at h
  exact ⟨h _ (.inl rfl), fun d hd n hn => h n (.inr (.inl (weightsAll_mem hn hd)))⟩
theorem open_list {α : Type} {cf : α → List Value} {Good : α → Prop} {t e : TypeId} {c fuel : Nat} {cs : List Value} {x : DataW H × List MemPlace} (ht : P.underlying t = some (.slice e)) (hc : P.cellsOf e = c) (hc0 : 0 < c) (hby : 0 < P.bytesOf e)
    (hcf : ∀ a, (cf a).length = c)
    (hel : ∀ n cs y, DataW.trod enc P w 0 (fun _ => true) true n e cs = some y → Lean_ P e y.1 → ∃ a : α, cs = cf a ∧ Good a)
    (h : DataW.trod enc P w 0 (fun _ => true) true fuel t cs = some x) (hw : Lean_ P t x.1) :
    ∃ (A : Option Addr) (cp : Nat) (l : List α), cs = [.slice A l.length cp] ∧ l.length ≤ cp ∧ Reads w w.heap.size c A l.length (l.flatMap cf) ∧ (∀ a ∈ l, Good a) ∧ l.length < 2 ^ 50 := by
  rcases Go.Deep.open_slice ht h with ⟨rfl, rfl⟩ | ⟨a, len, cap, m, n, D, Pl, rfl, _, hl, _, hm, rfl, hx⟩
  · exact ⟨none, 0, [], rfl, Nat.le_refl _, ⟨by simp, fun h => absurd h (by simp)⟩, by simp, by simp⟩
  · have hm : m = cap := by simpa using hm
    subst hm
    obtain ⟨hsz, hws⟩ := lean_slice ht hw
    have hsz : len < 2 ^ 50 := by
      simp only [List.length_map, List.length_range] at hsz
      have : reachBytes < 2 ^ 47 := reachBytes_lt
      have h2 : len + (m - len) ≤ (len + (m - len)) * P.bytesOf e := Nat.le_mul_of_pos_right _ hby
      omega
    have hex : ∀ i, i < len → ∃ v : α, Good v ∧ w.cells? 0 (a.add (i * c)) c = some (cf v) := fun i hi => by
      obtain ⟨cs', h1, h2⟩ := hx i (by omega)
      obtain ⟨v, rfl, hg⟩ := hel n cs' _ h2 (hws _ (List.mem_map.2 ⟨i, by simpa using hi, rfl⟩))
      rw [hc] at h1
      exact ⟨v, hg, h1⟩
    have hL : ∃ l : List α, l.length = len ∧ ∀ i v, l[i]? = some v → Good v ∧ w.cells? 0 (a.add (i * c)) c = some (cf v) := by
      clear hws hx hw h hm
      have : ∀ k, k ≤ len → ∃ l : List α, l.length = k ∧ ∀ i v, l[i]? = some v → Good v ∧ w.cells? 0 (a.add (i * c)) c = some (cf v) := by
        intro k
        induction k with
        | zero => exact fun _ => ⟨[], rfl, fun i v h => by simp at h⟩
        | succ k ih =>
          intro hk
          obtain ⟨l, h1, h2⟩ := ih (by omega)
          obtain ⟨v, hv⟩ := hex k (by omega)
          refine ⟨l ++ [v], by simp [h1], fun i u hu => ?_⟩
          rw [List.getElem?_append] at hu
          split at hu
          · exact h2 i u hu
          · rename_i hlt
            have hi : i - l.length = 0 := by
              have := (List.getElem?_eq_some_iff.1 hu).1
              simp at this; omega
            rw [hi] at hu
            simp at hu
            subst hu
            have : i = k := by omega
            rw [this]; exact hv
      exact this len (Nat.le_refl _)
    obtain ⟨l, hll, hg⟩ := hL
    have hcell : ∀ i v j, l[i]? = some v → j < c → w.cell? (a.add (i * c + j)) = (cf v)[j]? := fun i v j hv hj => by
      have := (World.cells?_some (hg i v hv).2).2.2 j hj
      rw [Go.Deep.add_add] at this
      exact this
    refine ⟨some a, m, l, by rw [hll], by omega, ⟨by rw [flat_len hcf], fun hn => ⟨a, rfl, ?_, fun j u hu => ?_⟩⟩, fun v hv => ?_, by omega⟩
    · obtain ⟨v, hv⟩ : ∃ v, l[0]? = some v := ⟨_, List.getElem?_eq_getElem hn⟩
      have h0 := hcell 0 v 0 hv hc0
      have : (cf v)[0]? = some ((cf v)[0]'(by rw [hcf]; exact hc0)) := List.getElem?_eq_getElem _
      rw [this] at h0
      have := World.block_lt_of_cell? w _ h0
      simpa [Addr.add] using this
    · have hjl : j < l.length * c := by
        have := (List.getElem?_eq_some_iff.1 hu).1
        rwa [flat_len hcf] at this
      have hd : j / c < l.length := Nat.div_lt_of_lt_mul (by rw [Nat.mul_comm]; exact hjl)
      have hr : j % c < c := Nat.mod_lt _ hc0
      have hj : j = j / c * c + j % c := by rw [Nat.mul_comm]; exact (Nat.div_add_mod j c).symm
      have hv : l[j / c]? = some l[j / c] := List.getElem?_eq_getElem hd
      rw [hj, flat_get hcf _ _ _ _ hv hr] at hu
      rw [hj, hcell _ _ _ hv hr]
      exact hu
    · obtain ⟨i, hi⟩ := List.mem_iff_getElem?.1 hv
      exact (hg i v hi).1
end
end Go.Proofs.Ytbcnejobnmljlaa
