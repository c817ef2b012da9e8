/- append onto a slice without room: a new slice; calls with known values in drawn regions. Over any program. -/
import Derived.Test.YtbcnejobnmljlaaMore
namespace Go.Proofs.Ytbcnejobnmljlaa
set_option linter.unusedVariables false
open Go Go.RowKit
section
variable {P : Program} {w0 : World} {B : Nat} {σ : Env} {L : List Res} {d : Option Nat} {ty T : TypeId} {pos : String} {af : Array Edge} {gd : Option (Nat × Bool)} {x y z : Operand} {v : Value}
/-- What comes of appending m elements to a slice of no elements and no room. -/
def ApZ (A : Option Addr) (e s m : Nat) (ys : List Value) : Value → List Res → Prop := fun v R => (m = 0 ∧ v = .slice A 0 0 ∧ R = []) ∨ ∃ A' c', v = .slice A' m c' ∧ R = [row (.slice A' m c') e s m ys]
theorem apz {e s b m c2 : Nat} {A A2 : Option Addr} {ys : List Value} {zv : Value} (hT : SlT P T e s b) (hz : ZrT P e zv) (hzs : zv.cells.size = s) (hs0 : 0 < s) (hsrc : Src w0 B L A2 m s ys)
    (hml : m ≤ maxLen) (hby : m * b ≤ 140737488355328) (hx : ev σ x = .slice A 0 0 := by exact rfl) (hy : ev σ y = .slice A2 m c2 := by exact rfl) :
    Sp P w0 B ⟨d, .call { callee := .builtin .append, args := #[x, y], argTypes := #[T, T] }, ty, pos, af, gd⟩ σ L (Adds (ApZ A e s m ys) L) := fun M w hh => by
  obtain ⟨inf, hi1, he⟩ := info_of hT.2
  simp only [Prod.mk.injEq] at he
  obtain ⟨i2, hi2, hz2⟩ := info_of hz
  rw [hi1] at hi2
  cases hi2
  rcases Nat.eq_zero_or_pos m with h0 | h0
  · subst h0
    refine .inl ⟨.slice A 0 0, w, ?_, L, hh, [], by simp, .inl ⟨rfl, rfl, rfl⟩⟩
    have hy0 : ys = [] := List.eq_nil_of_length_eq_zero (by simpa using hsrc.1)
    subst hy0
    simp only [execOp, resolve, invoke, builtin, Sem.run_bind, Sem.run_pure, Result.andThen_ok, List.map_toArray, List.map_cons, List.map_nil, hx, hy]
    have : (Builtin.append_ #[T, T] ty #[.slice A 0 0, .slice A2 0 c2]).run P w = .ok (.slice A 0 0) w := by
      cases A2 with
      | none => cases A <;> simp [Builtin.append_, run_underlying hT.1, sizeOf, typeInfo, hi1, Builtin.lenOf, Builtin.firstCells, storeCells]
      | some a =>
        have hf := run_firstCells_some (P := P) w inf.size 0 a 0 c2 [] (by simp) (by simp)
        cases A <;> simp [Builtin.append_, run_underlying hT.1, sizeOf, typeInfo, hi1, Builtin.lenOf, hf, storeCells]
    rw [this]
    rfl
  · rcases hsrc.2 M w hh with ⟨_, hm⟩ | ⟨a, rfl, hc⟩
    · omega
    have hlen := hsrc.1
    have hge := grownCap_ge w m 0 e
    have hcm : grownCap w m 0 e ≤ maxLen := grownCap_le_maxLen w m 0 e hml
    have hzc : zv.cells.size = inf.size := by rw [hzs, he.1]
    have hr : (Builtin.append_ #[T, T] ty #[.slice A 0 0, .slice (some a) m c2]).run P w = .ok (.slice (some ⟨w.heap.size, 0, none⟩) m (grownCap w m 0 e)) (w.drew.alloc (.cells (ys.toArray ++ Builtin.zeroCells zv.cells (grownCap w m 0 e - m)) e)) := by
      cases A with
      | none => exact run_append_nil (P := P) w T ty e inf zv hT.1 hi1 hz2 a m c2 ys (by rw [hlen, he.1]) hc h0 (by unfold maxLen at hml; omega) (by rw [he.2]; omega)
      | some g =>
        have := run_append_grow (P := P) w T ty e inf zv hT.1 hi1 hz2 g 0 0 [] (by simp) (by simp) a m c2 ys (by rw [hlen, he.1]) hc (by omega) (by unfold maxLen at hml; omega) (growslice_fits (by omega) (by rw [he.2]; simpa using hby))
        simpa using this
    have hst : Stp nil_ w (w.drew.alloc (.cells (ys.toArray ++ Builtin.zeroCells zv.cells (grownCap w m 0 e - m)) e)) := (Stp.drew w).trans (Stp.alloc w.drew _)
    refine .inl ⟨.slice (some ⟨w.heap.size, 0, none⟩) m (grownCap w m 0 e), _, ?_, _, hh.add (T := [row (.slice (some ⟨w.heap.size, 0, none⟩) m (grownCap w m 0 e)) e s m ys]) hst ?_ ?_ (by simp), _, rfl, .inr ⟨_, _, rfl, rfl⟩⟩
    · simp only [execOp, resolve, invoke, builtin, Sem.run_bind, Sem.run_pure, Result.andThen_ok, List.map_toArray, List.map_cons, List.map_nil, hx, hy, hr]
    · intro r hr'
      simp only [List.mem_singleton] at hr'
      subst hr'
      refine ⟨hlen, .inr ⟨w.heap.size, _, _, rfl, Nat.zero_le _, heap_alloc_new w.drew _, hge, hcm, ?_, ?_⟩⟩
      · simp only [Array.size_append, List.size_toArray, size_zeroCells, hzs, hlen, ← Nat.add_mul]
        congr 1
        omega
      · simp only [Array.toList_append]
        rw [← hlen]
        exact List.take_left
    · intro r hr' k hk
      simp only [List.mem_singleton] at hr'
      subst hr'
      have : w.heap.size = k := by simpa [row, Value.ownBlock] using hk
      subst this
      exact ⟨Nat.le_refl _, by simp⟩
end
theorem needs_cons {u : Got} {c : Nat} {l : List Nat} {L0 : List Res} {v : Value} {T : List Res} (h : u c = (v, T)) : needs u (c :: l) L0 = T ++ needs u l L0 := by
  unfold needs
  rw [List.flatMap_cons, h, List.append_assoc]
theorem needs_none {u : Got} {L0 : List Res} : needs u [] L0 = L0 := rfl
theorem Keep.comm {A B : List Res} : Keep (A ++ B) (B ++ A) := ⟨[], by rw [List.append_nil]; exact List.perm_append_comm⟩
def NewSv (e s n c : Nat) (xs : List Value) : Value → List Res → Prop := fun v R => ∃ g, v = .slice (some ⟨g, 0, none⟩) n c ∧ R = [row v e s n xs]
theorem NewS.adds {P : Program} {w0 : World} {B : Nat} {σ : Env} {L : List Res} {o : Oper} {e s n c : Nat} {xs : List Value} (h : Sp P w0 B o σ L (NewS e s n c xs L)) : Sp P w0 B o σ L (Adds (NewSv e s n c xs) L) := fun M w hh =>
  Goes.mono (h M w hh) fun v w' ⟨L', h1, g, h2, h3⟩ => ⟨L', h1, [row v e s n xs], h3, g, h2, rfl⟩
def NewPv (o : Obj) : Value → List Res → Prop := fun v R => ∃ g, v = .pointer (some ⟨g, 0, none⟩) ∧ R = [blk g o]
theorem NewP.adds {P : Program} {w0 : World} {B : Nat} {σ : Env} {L : List Res} {o : Oper} {ob : Obj} (h : Sp P w0 B o σ L (NewP ob L)) : Sp P w0 B o σ L (Adds (NewPv ob) L) := fun M w hh =>
  Goes.mono (h M w hh) fun v w' ⟨L', h1, g, h2, h3⟩ => ⟨L', h1, [blk g ob], h3, g, h2, rfl⟩
/-- ApZ, of a slice that lies somewhere. -/
def ApZx (e s m : Nat) (ys : List Value) : Value → List Res → Prop := fun v R => (m = 0 ∧ (∃ A, v = .slice A 0 0) ∧ R = []) ∨ ∃ A' c', v = .slice A' m c' ∧ R = [row (.slice A' m c') e s m ys]
theorem ApZ.adds {P : Program} {w0 : World} {B : Nat} {σ : Env} {L : List Res} {o : Oper} {A : Option Addr} {e s m : Nat} {ys : List Value} (h : Sp P w0 B o σ L (Adds (ApZ A e s m ys) L)) : Sp P w0 B o σ L (Adds (ApZx e s m ys) L) := fun M w hh =>
  Goes.mono (h M w hh) fun v w' ⟨L', h1, T, h2, h3⟩ => ⟨L', h1, T, h2, h3.elim (fun ⟨a, b, c⟩ => .inl ⟨a, ⟨A, b⟩, c⟩) .inr⟩
theorem Src.sub {w0 : World} {B : Nat} {L L' : List Res} {A : Option Addr} {m s : Nat} {ys : List Value} (h : Src w0 B L A m s ys) (hk : Keep L' L) : Src w0 B L' A m s ys := ⟨h.1, fun M w hh => h.2 M w (hk.hp hh)⟩
/-- A call of a function value that turns what is owned, its arguments written out. -/
theorem sp_callvw {P : Program} {w0 : World} {B : Nat} {σ : Env} {L : List Res} {d : Option Nat} {ty : TypeId} {pos : String} {af : Array Edge} {gd : Option (Nat × Bool)} {x : Operand} {f : FuncId} {fst cap args : Array Value} {xs : List Operand} {vs : List Value} {ts : Array TypeId} {Lin L2 : List Res} {R : Value → List Res → Prop} (he : Ent P f) (hc : Cm P f args w0 B Lin R) (hp : L.Perm (Lin ++ L2)) (hx : ev σ x = .func (.func f) fst cap := by exact rfl) (ha : xs.map (ev σ) = vs := by exact rfl) (hargs : fst ++ vs.toArray ++ cap = args := by simp) :
    Sp P w0 B ⟨d, .call { callee := .value x, args := xs.toArray, argTypes := ts }, ty, pos, af, gd⟩ σ L (Adds R L2) := by
  subst hargs
  exact sp_callvm he hp hc hx ha
/-- Which operations of a drawn region are calls of known values, that leave nothing. -/
def exIs (f : Nat → Option Value) : Nat → Option (Value → List Res → Prop) := fun k => (f k).map Is
theorem exIs_in {f : Nat → Option Value} : ∀ k V, exIs f k = some V → ∃ v R, V v R := fun k V h => by
  unfold exIs at h
  cases hf : f k with
  | none => rw [hf] at h; cases h
  | some v => rw [hf] at h; cases h; exact ⟨v, [], rfl, rfl⟩
theorem needs_exIs {f : Nat → Option Value} {u : Got} {L0 : List Res} (hu : Valid (exIs f) u) : ∀ {E : List Nat}, E.all (fun c => (f c).isSome) = true → needs u E L0 = L0
  | [], _ => rfl
  | c :: E, h => by
    simp only [List.all_cons, Bool.and_eq_true] at h
    obtain ⟨v, hv⟩ := Option.isSome_iff_exists.1 h.1
    have h1 : (u c).1 = v ∧ (u c).2 = [] := hu c (Is v) (by unfold exIs; rw [hv]; rfl)
    have h2 : u c = (v, []) := by rw [← h1.1, ← h1.2]
    rw [needs_cons h2, needs_exIs hu h.2]
    rfl
section
variable {C : Ctx} {all : Array Oper} {f : Nat → Option Value} {nd : Nat → List Nat} {u : Got} {L0 : List Res} {k : Nat} {rest : List Oper} {σ : Env} {E : List Nat} {K : Env → List Nat → Prop} {op : Op} {d : Option Nat} {ty : TypeId} {pos : String} {af : Array Edge} {v : Value}
theorem Wk.dk (hu : Valid (exIs f) u) (h : Sp C.P C.w0 C.B ⟨d, op, ty, pos, af, none⟩ σ L0 (Adds (Is v) L0)) (hk : Wk C all (exIs f) nd u L0 (k + 1) rest (updO σ d v) (k :: E) K)
    (hf : f k = some v := by rfl) (hd : okDst C.N d = true := by rfl) (hn : nd k = [] := by rfl) : Wk C all (exIs f) nd u L0 k (⟨d, op, ty, pos, af, none⟩ :: rest) σ E K :=
  Wk.c hu (by unfold exIs; rw [hf]; rfl) h (fun _ => hk) hd hn
theorem Wk.gdk {j t : Nat} {b b' : Bool} (hu : Valid (exIs f) u) (he : b' = b) (h : Sp C.P C.w0 C.B ⟨d, op, ty, pos, af, some (j, b)⟩ σ L0 (Adds (Is v) L0)) (hk : Wk C all (exIs f) nd u L0 (k + 1) rest (updO σ d v) (k :: E) K)
    (hj : (all[j]?).bind (·.dst) = some t := by rfl) (hb : σ t = .bool b' := by rfl) (hf : f k = some v := by rfl) (hd : okDst C.N d = true := by rfl) (hn : nd k = [] := by rfl) : Wk C all (exIs f) nd u L0 k (⟨d, op, ty, pos, af, some (j, b)⟩ :: rest) σ E K :=
  Wk.gc hu he (by unfold exIs; rw [hf]; rfl) h (fun _ => hk) hj hb hd hn
end
end Go.Proofs.Ytbcnejobnmljlaa
