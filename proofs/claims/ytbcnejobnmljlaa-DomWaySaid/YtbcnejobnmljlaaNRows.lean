/- Many rows of numbers of one's own, one behind the other among what is held; arrays told by a function. Over any program. -/
import Derived.Test.YtbcnejobnmljlaaDrawT
import Derived.Test.YtbcnejobnmljlaaSet
namespace Go.Proofs.Ytbcnejobnmljlaa
set_option linter.unusedVariables false
open Go Go.RowKit

/-- Cells told by a function. -/
def rngV (n : Nat) (h : Nat → Value) : Array Value := ((List.range n).map h).toArray
theorem rngV_size (n : Nat) (h : Nat → Value) : (rngV n h).size = n := by simp [rngV]
theorem rngV_get {n : Nat} {h : Nat → Value} {i : Nat} (hi : i < n) : (rngV n h)[i]? = some (h i) := by simp [rngV, hi]
theorem rngV_set {n : Nat} {h : Nat → Value} {k : Nat} {v : Value} : (rngV n h).setIfInBounds k v = rngV n (fun x => if x = k then v else h x) := by
  apply Array.ext
  · simp [rngV]
  · intro i h1 h2
    simp only [rngV, List.setIfInBounds_toArray, List.getElem_toArray]
    rw [List.getElem_set]
    by_cases e : k = i
    · subst e; simp
    · rw [if_neg e]; simp [Ne.symm e]
theorem rngV_congr {n : Nat} {h h' : Nat → Value} (he : ∀ i, i < n → h i = h' i) : rngV n h = rngV n h' := by
  unfold rngV
  congr 1
  apply List.map_congr_left
  intro i hi
  exact he i (by simpa using hi)
theorem rngV_rep (n : Nat) (v : Value) : Array.replicate n v = rngV n fun _ => v := by
  apply Array.ext'
  unfold rngV
  rw [Array.toList_replicate]
  simp [List.map_const']
/-- The slices' heads: where they lie, their room. -/
abbrev Heads := Nat → Option Addr × Nat
def headV (H : Heads) (xs : Nat → List Int) (x : Nat) : Value := .slice (H x).1 (xs x).length (H x).2
def rowP (e : Nat) (H : Heads) (xs : Nat → List Int) (x : Nat) : Res := row (headV H xs x) e 1 (xs x).length (ints (xs x))
def rowsP (n e : Nat) (H : Heads) (xs : Nat → List Int) : List Res := (List.range n).map (rowP e H xs)
def restP (n e b : Nat) (H : Heads) (xs : Nat → List Int) : List Res := ((List.range n).eraseIdx b).map (rowP e H xs)
theorem rowsP_get {n e x : Nat} {H : Heads} {xs : Nat → List Int} (h : x < n) : (rowsP n e H xs)[x]? = some (row (.slice (H x).1 (xs x).length (H x).2) e 1 (xs x).length (ints (xs x))) := by
  unfold rowsP
  rw [List.getElem?_map, List.getElem?_range h]
  rfl
theorem rowsP_perm {n e b : Nat} {H : Heads} {xs : Nat → List Int} (h : b < n) : (rowsP n e H xs).Perm (row (.slice (H b).1 (xs b).length (H b).2) e 1 (xs b).length (ints (xs b)) :: restP n e b H xs) := by
  unfold rowsP restP
  have h1 : (List.range n).Perm (b :: (List.range n).eraseIdx b) := by
    rw [List.eraseIdx_eq_take_drop_succ]
    have e1 : List.range n = (List.range n).take b ++ b :: (List.range n).drop (b + 1) := by
      have := split_at (l := List.range n) (i := b) (x := b) (List.getElem?_range h)
      exact this
    rw (occs := .pos [1]) [e1]
    exact List.perm_middle
  exact h1.map _
theorem restP_congr {n e b : Nat} {H H' : Heads} {xs xs' : Nat → List Int} (h : ∀ x, x ≠ b → H x = H' x ∧ xs x = xs' x) : restP n e b H xs = restP n e b H' xs' := by
  unfold restP
  apply List.map_congr_left
  intro x hx
  have hne : x ≠ b := by
    rintro rfl
    have hn : (List.range n).Nodup := List.nodup_range
    by_cases hb : x < n
    · have h1 : (List.range n).Perm (x :: (List.range n).eraseIdx x) := by
        rw [List.eraseIdx_eq_take_drop_succ]
        have e1 : List.range n = (List.range n).take x ++ x :: (List.range n).drop (x + 1) := split_at (l := List.range n) (i := x) (x := x) (List.getElem?_range hb)
        rw (occs := .pos [1]) [e1]
        exact List.perm_middle
      exact (List.nodup_cons.1 (h1.nodup_iff.1 hn)).1 hx
    · have := List.mem_of_mem_eraseIdx hx
      simp at this; omega
  obtain ⟨h1, h2⟩ := h x hne
  unfold rowP headV
  rw [h1, h2]
theorem rowsP_congr {n e : Nat} {H H' : Heads} {xs xs' : Nat → List Int} (h : ∀ x, x < n → H x = H' x ∧ xs x = xs' x) : rowsP n e H xs = rowsP n e H' xs' := by
  unfold rowsP
  apply List.map_congr_left
  intro x hx
  obtain ⟨h1, h2⟩ := h x (by simpa using hx)
  unfold rowP headV
  rw [h1, h2]
/-- As many empty ones as are wanted. -/
theorem Hp.nrs {w0 w : World} {B e : Nat} {M L : List Res} (h : Hp w0 B (M ++ L) w) : ∀ n, Hp w0 B (M ++ (L ++ rowsP n e (fun _ => (none, 0)) (fun _ => []))) w
  | 0 => by simpa [rowsP] using h
  | n + 1 => by
    have h1 := Hp.nrs (e := e) h n
    have h2 : Hp w0 B (M ++ (row (.slice none 0 0) e 1 0 [] :: (L ++ rowsP n e (fun _ => (none, 0)) (fun _ => [])))) w := Hp.nr h1
    refine h2.perm (List.Perm.append_left _ ?_)
    have : rowsP (n + 1) e (fun _ => (none, 0)) (fun _ => []) = rowsP n e (fun _ => (none, 0)) (fun _ => []) ++ [row (.slice none 0 0) e 1 0 []] := by
      unfold rowsP
      rw [List.range_succ, List.map_append]; rfl
    rw [this, ← List.append_assoc]
    exact (List.perm_append_singleton _ _).symm
theorem Cd.nrs {C : Ctx} {c : Code} {Q : Exit → Env → List Res → Prop} {σ : Env} {L : List Res} (n e : Nat) (hc : Cd C c Q σ (L ++ rowsP n e (fun _ => (none, 0)) (fun _ => []))) : Cd C c Q σ L := fun a w ha hs => hc a w ha ⟨hs.size, hs.heap.nrs n⟩
end Go.Proofs.Ytbcnejobnmljlaa
