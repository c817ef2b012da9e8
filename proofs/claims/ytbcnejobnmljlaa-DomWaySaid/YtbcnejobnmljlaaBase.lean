/- The layer of our own over the fenced walk: environments as functions, a heap as a list of resources that lie apart, and judgements for operations, regions and code. Nothing here speaks of a program: all is over any program P. -/
import Derived.WalkKit
import Derived.OrdersIn
import Derived.TacticsIn
import Derived.RangeFuncNested
import Derived.RangeFuncBound
import Derived.RangeFuncCalls
import Derived.RangeFuncLeaves
namespace Go.Proofs.Ytbcnejobnmljlaa
set_option linter.unusedVariables false
open Go Go.RowKit

/-! ### Environments -/
abbrev Env := Nat → Value
def upd (σ : Env) (d : Nat) (v : Value) : Env := fun t => bif Nat.beq t d then v else σ t
def updO (σ : Env) (d : Option Nat) (v : Value) : Env := match d with | some d => upd σ d v | none => σ
theorem beq_ne {a b : Nat} (h : a ≠ b) : Nat.beq a b = false := by
  cases hb : Nat.beq a b with
  | false => rfl
  | true => exact absurd (Nat.eq_of_beq_eq_true hb) h
theorem upd_same (σ : Env) (d : Nat) (v : Value) : upd σ d v d = v := by simp [upd]
theorem upd_other (σ : Env) (d t : Nat) (v : Value) (h : t ≠ d) : upd σ d v t = σ t := by
  simp [upd, beq_ne h]
theorem upd_self {σ : Env} {t : Nat} {v : Value} (h : σ t = v) : upd σ t v = σ := by
  funext u
  by_cases e : u = t
  · subst e; rw [upd_same, h]
  · rw [upd_other _ _ _ _ e]
/-- What some slots hold. -/
def Has (σ : Env) : List (Nat × Value) → Prop
  | [] => True
  | (t, v) :: l => σ t = v ∧ Has σ l
def upds (σ : Env) : List (Nat × Value) → Env
  | [] => σ
  | (t, v) :: l => upd (upds σ l) t v
theorem Has.eq {σ : Env} : ∀ {l : List (Nat × Value)}, Has σ l → upds σ l = σ
  | [], _ => rfl
  | (t, v) :: l, h => by rw [upds, Has.eq h.2]; exact upd_self h.1
def ev (σ : Env) : Operand → Value
  | .tmp t => σ t
  | .const v => v
  | .global g => .pointer (some ⟨g, 0, none⟩)
  | .func f => .func (.func f) #[] #[]
def Agree (a : Act) (σ : Env) : Prop := ∀ t, a.tmps.getD t undef = σ t
theorem Agree.eval {a : Act} {σ : Env} (h : Agree a σ) : a.eval = ev σ := by
  funext x
  cases x with
  | tmp t => exact h t
  | const v => rfl
  | global g => rfl
  | func f => rfl
theorem Agree.refl (a : Act) : Agree a (fun t => a.tmps.getD t undef) := fun _ => rfl
theorem Agree.put {a : Act} {σ : Env} (h : Agree a σ) {d : Option Nat} (v : Value) (hd : ∀ t, d = some t → t < a.tmps.size) : Agree (a.put d v) (updO σ d v) := by
  intro t
  cases d with
  | none => exact h t
  | some d =>
    have hd := hd d rfl
    by_cases e : t = d
    · subst e
      simp [Act.put, updO, upd_same, hd]
    · have h1 := h t
      simp only [Act.put, updO, upd_other _ _ _ _ e]
      rw [← h1]
      simp only [Array.getD_eq_getD_getElem?]
      rw [Array.getElem?_setIfInBounds_ne (fun e' => e e'.symm)]
theorem put_size (a : Act) (d : Option Nat) (v : Value) : (a.put d v).tmps.size = a.tmps.size := by
  cases d <;> simp [Act.put]
theorem put_defers (a : Act) (d : Option Nat) (v : Value) : (a.put d v).defers = a.defers := by
  cases d <;> simp [Act.put]

/-! ### Resources -/
structure Res where
  S : Nat → Prop
  p : World → Prop
  loc : ∀ w w' : World, (∀ k, S k → w'.heap[k]? = w.heap[k]?) → p w → p w'
/-- Block g is the object o. -/
def blk (g : Nat) (o : Obj) : Res := ⟨fun k => k = g, fun w => w.heap[g]? = some o, fun _ _ h hp => (h g rfl).trans hp⟩
theorem ownsRow_loc {w w' : World} {base : Nat} {e : TypeId} {size : Nat} {v : Value} {n : Nat} {xs : List Value} (hk : ∀ k, v.ownBlock = some k → w'.heap[k]? = w.heap[k]?)
    (h : w.ownsRow base e size v n xs) : w'.ownsRow base e size v n xs := by
  refine ⟨h.1, ?_⟩
  rcases h.2 with hn | ⟨g, cap, cur, hv, hb, hg, rest⟩
  · exact .inl hn
  · refine .inr ⟨g, cap, cur, hv, hb, ?_, rest⟩
    rw [hk g (by subst hv; rfl)]
    exact hg
/-- The slice value v (its own row, or nil) holds n elements of type e, size cells each: the cells xs. -/
def row (v : Value) (e : TypeId) (size n : Nat) (xs : List Value) : Res :=
  ⟨fun k => v.ownBlock = some k, fun w => w.ownsRow 0 e size v n xs, fun _ _ h hp => ownsRow_loc h hp⟩
/-- A world's step that turns blocks of S alone. -/
structure Stp (S : Nat → Prop) (w w' : World) : Prop where
  os : w'.os = w.os
  tape : w'.tape = w.tape
  output : w'.output = w.output
  size : w.heap.size ≤ w'.heap.size
  block : ∀ k, k < w.heap.size → ¬ S k → w'.heap[k]? = w.heap[k]?
def nil_ : Nat → Prop := fun _ => False
theorem Stp.refl (S : Nat → Prop) (w : World) : Stp S w w := ⟨rfl, rfl, rfl, Nat.le_refl _, fun _ _ _ => rfl⟩
theorem Stp.mono {S S' : Nat → Prop} {w w' : World} (h : Stp S w w') (hs : ∀ k, k < w.heap.size → S k → S' k) : Stp S' w w' := ⟨h.os, h.tape, h.output, h.size, fun k hk hn => h.block k hk (fun e => hn (hs k hk e))⟩
theorem Stp.trans {S : Nat → Prop} {a b c : World} (h : Stp S a b) (k : Stp S b c) : Stp S a c :=
  ⟨k.os.trans h.os, k.tape.trans h.tape, k.output.trans h.output, Nat.le_trans h.size k.size, fun i hi hn => (k.block i (Nat.lt_of_lt_of_le hi h.size) hn).trans (h.block i hi hn)⟩
theorem Stp.alloc (w : World) (o : Obj) : Stp nil_ w (w.alloc o) := ⟨rfl, rfl, rfl, by simp, fun k hk _ => Below.heap_alloc w o k hk⟩
theorem Stp.drew (w : World) : Stp nil_ w w.drew := ⟨rfl, rfl, rfl, Nat.le_refl _, fun _ _ _ => rfl⟩
theorem Stp.setCell (w : World) (p : Addr) (v : Value) : Stp (fun k => k = p.block) w (w.setCell p v) := ⟨rfl, rfl, rfl, by simp, fun k _ hn => Below.heap_setCell w p v k hn⟩
theorem Stp.of_grown {w w' : World} {r : Option Nat} (h : w.grownBy w' r) : Stp (fun k => r = some k) w w' := ⟨h.os, h.tape, h.output, h.size, fun k hk hn => h.block k hk (fun e => hn e.symm)⟩
theorem Stp.of_below {B : Nat} {w w' : World} (h : Below B w w') : Stp (fun k => B ≤ k) w w' := ⟨h.os, h.tape, h.output, h.size, fun k _ hn => h.block k (by omega)⟩
theorem Stp.below {S : Nat → Prop} {B : Nat} {w w' : World} (h : Stp S w w') (hB : B ≤ w.heap.size) (hs : ∀ k, S k → B ≤ k) : Below B w w' :=
  ⟨h.os, h.tape, h.output, h.size, fun k hk => h.block k (by omega) (fun e => by have := hs k e; omega)⟩
theorem Stp.putObj (w : World) (g : Nat) (o : Obj) : Stp (fun k => k = g) w (w.putObj g o) := ⟨rfl, rfl, rfl, by simp, fun k _ hn => World.putObj_heap_other hn⟩

/-- What is owned: each of L holds, lies from B on, and they lie apart; below B all is as in w0. -/
structure Hp (w0 : World) (B : Nat) (L : List Res) (w : World) : Prop where
  below : Below B w0 w
  le : B ≤ w.heap.size
  has : ∀ r ∈ L, r.p w
  fit : ∀ r ∈ L, ∀ k, r.S k → B ≤ k ∧ k < w.heap.size
  apart : L.Pairwise (fun r s => ∀ k, r.S k → ¬ s.S k)
section
variable {w0 w w' : World} {B : Nat} {L L' M A D : List Res} {r r' : Res}
theorem Hp.start (w : World) : Hp w w.heap.size [] w := ⟨Below.refl _ _, Nat.le_refl _, by simp, by simp, .nil⟩
theorem Hp.perm (h : Hp w0 B L w) (hp : L.Perm L') : Hp w0 B L' w :=
  ⟨h.below, h.le, fun r hr => h.has r (hp.mem_iff.2 hr), fun r hr => h.fit r (hp.mem_iff.2 hr), (hp.pairwise_iff (fun {_ _} hxy k hk hx => hxy k hx hk)).1 h.apart⟩
theorem Hp.sub (h : Hp w0 B L w) (hp : L'.Sublist L) : Hp w0 B L' w :=
  ⟨h.below, h.le, fun r hr => h.has r (hp.subset hr), fun r hr => h.fit r (hp.subset hr), h.apart.sublist hp⟩
/-- One resource (or none) gives way to some that lie where it lay, or in new blocks. -/
theorem Hp.turn {T : List Res} {S : Nat → Prop} (h : Hp w0 B (A ++ D) w) (st : Stp S w w') (hS : ∀ k, S k → k < w.heap.size → B ≤ k ∧ ∀ r ∈ A ++ D, ¬ r.S k)
    (hT : ∀ r ∈ T, r.p w') (hf : ∀ r ∈ T, ∀ k, r.S k → B ≤ k ∧ k < w'.heap.size ∧ (k < w.heap.size → S k)) (ha : T.Pairwise (fun r s => ∀ k, r.S k → ¬ s.S k)) : Hp w0 B (A ++ (T ++ D)) w' := by
  have hold : ∀ r ∈ A ++ D, r.p w' := fun r hr => r.loc w w' (fun k hk => st.block k (h.fit r hr k hk).2 (fun e => (hS k e (h.fit r hr k hk).2).2 r hr hk)) (h.has r hr)
  have hfit : ∀ r ∈ A ++ D, ∀ k, r.S k → B ≤ k ∧ k < w'.heap.size := fun r hr k hk => ⟨(h.fit r hr k hk).1, Nat.lt_of_lt_of_le (h.fit r hr k hk).2 st.size⟩
  have hsep : ∀ r ∈ A ++ D, ∀ t ∈ T, ∀ k, r.S k → ¬ t.S k := fun r hr t ht k hk htk => by
    have hlt := (h.fit r hr k hk).2
    exact (hS k ((hf t ht k htk).2.2 hlt) hlt).2 r hr hk
  refine ⟨h.below.trans ⟨st.os, st.tape, st.output, st.size, fun k hk => st.block k (Nat.lt_of_lt_of_le hk h.le) (fun e => by have := (hS k e (Nat.lt_of_lt_of_le hk h.le)).1; omega)⟩, Nat.le_trans h.le st.size, ?_, ?_, ?_⟩
  · intro r hr
    simp only [List.mem_append] at hr
    rcases hr with hr | hr | hr
    · exact hold r (by simp [hr])
    · exact hT r hr
    · exact hold r (by simp [hr])
  · intro r hr k hk
    simp only [List.mem_append] at hr
    rcases hr with hr | hr | hr
    · exact hfit r (by simp [hr]) k hk
    · exact ⟨(hf r hr k hk).1, (hf r hr k hk).2.1⟩
    · exact hfit r (by simp [hr]) k hk
  · have hap := h.apart
    rw [List.pairwise_append] at hap
    rw [List.pairwise_append, List.pairwise_append]
    refine ⟨hap.1, ⟨ha, hap.2.1, fun t ht r hr k htk hk => hsep r (by simp [hr]) t ht k hk htk⟩, fun r hr s hs k hk hsk => ?_⟩
    simp only [List.mem_append] at hs
    rcases hs with hs | hs
    · exact hsep r (by simp [hr]) s hs k hk hsk
    · exact hap.2.2 r hr s hs k hk hsk
/-- New resources in new blocks. -/
theorem Hp.add {T : List Res} (h : Hp w0 B (M ++ L) w) (st : Stp nil_ w w') (hT : ∀ r ∈ T, r.p w') (hf : ∀ r ∈ T, ∀ k, r.S k → w.heap.size ≤ k ∧ k < w'.heap.size)
    (ha : T.Pairwise (fun r s => ∀ k, r.S k → ¬ s.S k)) : Hp w0 B (M ++ (T ++ L)) w' :=
  h.turn st (fun _ e => e.elim) hT (fun r hr k hk => ⟨Nat.le_trans h.le (hf r hr k hk).1, (hf r hr k hk).2, fun hlt => by have := (hf r hr k hk).1; omega⟩) ha
theorem Hp.step (h : Hp w0 B L w) (st : Stp nil_ w w') : Hp w0 B L w' := by
  have := Hp.add (M := []) (T := []) (by simpa using h) st (by simp) (by simp) .nil
  simpa using this
theorem split_at {α : Type} : ∀ {l : List α} {i : Nat} {x : α}, l[i]? = some x → l = l.take i ++ x :: l.drop (i + 1)
  | [], _, _, h => by simp at h
  | y :: l, 0, x, h => by simp at h; simp [h]
  | y :: l, i + 1, x, h => by
    have := split_at (l := l) (i := i) (x := x) (by simpa using h)
    simp only [List.take_succ_cons, List.drop_succ_cons, List.cons_append]
    rw [← this]
theorem set_split {α : Type} {l : List α} {i : Nat} {x y : α} (h : l[i]? = some x) : l.set i y = l.take i ++ y :: l.drop (i + 1) := by
  obtain ⟨hlt, _⟩ := List.getElem?_eq_some_iff.1 h
  rw [List.set_eq_take_append_cons_drop, if_pos hlt]
/-- The resource at place i gives way to another one that lies where it lay, or in a new block. -/
theorem Hp.set {i : Nat} (h : Hp w0 B (M ++ L) w) (hi : L[i]? = some r) (st : Stp r.S w w') (hp : r'.p w') (hf : ∀ k, r'.S k → r.S k ∨ (w.heap.size ≤ k ∧ k < w'.heap.size)) : Hp w0 B (M ++ L.set i r') w' := by
  have hfr : ∀ k, r.S k → B ≤ k ∧ k < w.heap.size := h.fit r (by simp [List.mem_of_getElem? hi])
  rw [split_at hi] at h
  rw [set_split hi]
  have h2 : Hp w0 B ((M ++ L.take i) ++ (r :: L.drop (i + 1))) w := by simpa using h
  have h3 : Hp w0 B ((M ++ L.take i) ++ L.drop (i + 1)) w := h2.sub (by simp)
  have hap := h2.apart
  rw [List.pairwise_append] at hap
  have h4 := h3.turn (T := [r']) (S := r.S) (w' := w') st (fun k hk hlt => ⟨(hfr k hk).1, fun s hs hsk => by
      rcases List.mem_append.1 hs with hs | hs
      · exact hap.2.2 s hs r (by simp) k hsk hk
      · exact (List.pairwise_cons.1 hap.2.1).1 s hs k hk hsk⟩) (by simpa using hp) (fun s hs k hk => by
      obtain rfl : s = r' := by simpa using hs
      rcases hf k hk with hk' | hk'
      · exact ⟨(hfr k hk').1, Nat.lt_of_lt_of_le (hfr k hk').2 st.size, fun _ => hk'⟩
      · exact ⟨by have := h.le; omega, hk'.2, fun hlt => by omega⟩) (by simp)
  simpa using h4
theorem Hp.at_ {i : Nat} (h : Hp w0 B (M ++ L) w) (hi : L[i]? = some r) : r.p w := h.has r (by simp [List.mem_of_getElem? hi])
theorem Hp.fit_ {i : Nat} (h : Hp w0 B (M ++ L) w) (hi : L[i]? = some r) : ∀ k, r.S k → B ≤ k ∧ k < w.heap.size := h.fit r (by simp [List.mem_of_getElem? hi])
/-- A call that owned nothing of its caller's: what it hands back is the caller's. -/
theorem Hp.call {T : List Res} (h : Hp w0 B (M ++ L) w) (hc : Hp w w.heap.size T w') : Hp w0 B (M ++ (T ++ L)) w' :=
  h.add (⟨hc.below.os, hc.below.tape, hc.below.output, hc.below.size, fun k hk _ => hc.below.block k hk⟩) hc.has hc.fit hc.apart
end

/-! ### What an operation does -/
def det (v : Value) (L : List Res) : Value → List Res → Prop := fun v' L' => v' = v ∧ L' = L
/-- What a run of one operation comes to, whichever way. -/
def Goes (P : Program) (r : Result Next) (Φ : Value → World → Prop) : Prop :=
  (∃ v w', r = .ok (.value v) w' ∧ Φ v w') ∨ (∃ w', r = .ok .skip w' ∧ Φ undef w') ∨
  (∃ f args w1, r = .ok (.enter f args) w1 ∧ CallsIn Fence.wide 0 P f args w1 fun e w' => ∃ v, e = .returned v ∧ Φ v w') ∨
  (∃ l f tmps assign body w1, r = .ok (.round l f tmps assign body) w1 ∧ RoundIn Fence.wide 0 P l f tmps assign body w1 fun e w' => ∃ v, e = .returned v ∧ Φ v w')
theorem Goes.mono {P : Program} {r : Result Next} {Φ Ψ : Value → World → Prop} (h : Goes P r Φ) (hm : ∀ v w, Φ v w → Ψ v w) : Goes P r Ψ := by
  rcases h with ⟨v, w', hr, h⟩ | ⟨w', hr, h⟩ | ⟨f, args, w1, hr, h⟩ | ⟨l, f, tmps, assign, body, w1, hr, h⟩
  · exact .inl ⟨v, w', hr, hm _ _ h⟩
  · exact .inr (.inl ⟨w', hr, hm _ _ h⟩)
  · exact .inr (.inr (.inl ⟨f, args, w1, hr, h.mono fun e w' ⟨v, he, hv⟩ => ⟨v, he, hm _ _ hv⟩⟩))
  · exact .inr (.inr (.inr ⟨l, f, tmps, assign, body, w1, hr, h.mono fun e w' ⟨v, he, hv⟩ => ⟨v, he, hm _ _ hv⟩⟩))
def Sp (P : Program) (w0 : World) (B : Nat) (o : Oper) (σ : Env) (L : List Res) (R : Value → List Res → Prop) : Prop :=
  ∀ (M : List Res) (w : World), Hp w0 B (M ++ L) w → Goes P ((execOp (ev σ) o).run P w) fun v w' => ∃ L', Hp w0 B (M ++ L') w' ∧ R v L'
/-- An operation that turns nothing, and its value. -/
def Sd (P : Program) (w0 : World) (B : Nat) (o : Oper) (σ : Env) (L : List Res) (v : Value) : Prop :=
  ∀ (M : List Res) (w : World), Hp w0 B (M ++ L) w → (execOp (ev σ) o).run P w = .ok (.value v) w
theorem Sd.sp {P : Program} {w0 : World} {B : Nat} {o : Oper} {σ : Env} {L : List Res} {v : Value} (h : Sd P w0 B o σ L v) : Sp P w0 B o σ L (det v L) := fun M w hh => .inl ⟨v, w, h M w hh, L, hh, rfl, rfl⟩
def FR (r : Option Nat) : Fence := { Fence.wide with round := r }
theorem FR_none : FR none = Fence.wide := rfl
theorem Goes.wpIn {P : Program} {ro : Option Nat} {a : Act} {σ : Env} {o : Oper} {w : World} {Φ : Value → World → Prop} {K : Act → World → Prop} {Q : Exit → Act → World → Prop}
    (ha : Agree a σ) (h : Goes P ((execOp (ev σ) o).run P w) Φ) (hK : ∀ v w', Φ v w' → K (a.put o.dst v) w') : o.wpIn (FR ro) 0 P a w K Q := by
  have hdef : (∀ c, o.op ≠ .defer c) ∨ ¬ (∀ c, o.op ≠ .defer c) := Classical.em _
  refine ⟨fun _ _ => trivial, ?_⟩
  have hsem : (o.semAt (FR ro).round a.eval).run P w = (execOp (ev σ) o).run P w := by
    rw [ha.eval]
    rcases hdef with hd | hd
    · rw [Oper.semAt_eq _ _ _ hd]
    · exfalso
      obtain ⟨c, hc⟩ := Classical.not_forall.1 hd
      have hc := Classical.not_not.1 hc
      have hrun : (execOp (ev σ) o).run P w = ((resolve (ev σ) c o.type).run P w).andThen fun d w' => .ok (.defer d) w' := by
        unfold execOp
        simp only [hc, Sem.run_bind, Sem.run_pure]
      rw [hrun] at h
      cases hr : (resolve (ev σ) c o.type).run P w with
      | ok d w' =>
        rw [hr] at h
        rcases h with ⟨_, _, h, _⟩ | ⟨_, h, _⟩ | ⟨_, _, _, h, _⟩ | ⟨_, _, _, _, _, _, h, _⟩ <;> cases h
      | halt x w' =>
        rw [hr] at h
        rcases h with ⟨_, _, h, _⟩ | ⟨_, h, _⟩ | ⟨_, _, _, h, _⟩ | ⟨_, _, _, _, _, _, h, _⟩ <;> cases h
  rw [hsem]
  rcases h with ⟨v, w', hr, h⟩ | ⟨w', hr, h⟩ | ⟨f, args, w1, hr, h⟩ | ⟨l, f, tmps, assign, body, w1, hr, h⟩
  · rw [hr]; exact hK _ _ h
  · rw [hr]; exact hK _ _ h
  · rw [hr]
    refine ⟨fun hd => by simp [FR, Fence.wide] at hd, ?_⟩
    have h' : CallsIn (FR ro) 0 P f args w1 fun e w' => ∃ v, e = .returned v ∧ Φ v w' := h
    refine h'.mono ?_
    rintro e w' ⟨v, rfl, hv⟩
    exact hK _ _ hv
  · rw [hr]
    refine ⟨fun hd => by simp [FR, Fence.wide] at hd, ?_⟩
    have h' : RoundIn (FR ro) 0 P l f tmps assign body w1 fun e w' => ∃ v, e = .returned v ∧ Φ v w' := h
    refine h'.mono ?_
    rintro e w' ⟨v, rfl, hv⟩
    exact hK _ _ hv

/-! ### Judgements -/
structure Ctx where
  P : Program
  N : Nat
  r : Option Nat
  w0 : World
  B : Nat
  H : List Res
/-- The mark that a range over a function leaves among the deferred calls: its block. -/
def markRes (d : Deferred) : Res := match d.target with
  | .collected D => blk D (.deferred (some []))
  | _ => ⟨fun _ => False, fun _ => False, fun _ _ _ h => h⟩
/-- What is held, and not told of: the marks, and what the context holds. -/
def hid (C : Ctx) (a : Act) : List Res := a.defers.map markRes ++ C.H
structure St (C : Ctx) (L : List Res) (a : Act) (w : World) : Prop where
  size : a.tmps.size = C.N
  heap : Hp C.w0 C.B (hid C a ++ L) w
theorem hid_put (C : Ctx) (a : Act) (d : Option Nat) (v : Value) : hid C (a.put d v) = hid C a := by simp [hid, put_defers]
def Cd (C : Ctx) (c : Code) (Q : Exit → Env → List Res → Prop) (σ : Env) (L : List Res) : Prop :=
  ∀ a w, Agree a σ → St C L a w → c.wpIn (FR C.r) 0 C.P (fun e a' w' => ∃ σ' L', Agree a' σ' ∧ St C L' a' w' ∧ Q e σ' L') a w
/-- The list l of operations of a region, run in turn. -/
def Ol (C : Ctx) (all : Array Oper) (l : List Oper) (K : Env → List Res → Prop) (σ : Env) (L : List Res) : Prop :=
  ∀ a w (Q : Exit → Act → World → Prop), Agree a σ → St C L a w → (∀ a' w' σ' L', Agree a' σ' → St C L' a' w' → K σ' L' → Q .normal a' w') → wpListIn (FR C.r) 0 C.P all Q l a w
section
variable {C : Ctx} {Q Q' : Exit → Env → List Res → Prop} {σ : Env} {L L' : List Res} {c x y : Code} {K K' : Env → List Res → Prop} {all : Array Oper} {rest l : List Oper} {o : Oper}
theorem St.perm {a : Act} {w : World} (h : St C L a w) (hp : L.Perm L') : St C L' a w := ⟨h.size, h.heap.perm (List.Perm.append_left _ hp)⟩
theorem St.sub {a : Act} {w : World} (h : St C L a w) (hp : L'.Sublist L) : St C L' a w := ⟨h.size, h.heap.sub (List.Sublist.append_left hp _)⟩
theorem Cd.mono (h : Cd C c Q σ L) (hq : ∀ e σ L, Q e σ L → Q' e σ L) : Cd C c Q' σ L :=
  fun a w ha hs => Go.wpIn_mono (h a w ha hs) fun _ _ _ ⟨σ', L', h1, h2, h3⟩ => ⟨σ', L', h1, h2, hq _ _ _ h3⟩
theorem Cd.perm (h : Cd C c Q σ L) (hp : L'.Perm L) : Cd C c Q σ L' := fun a w ha hs => h a w ha (hs.perm hp)
theorem Cd.sub (h : Cd C c Q σ L) (hp : L.Sublist L') : Cd C c Q σ L' := fun a w ha hs => h a w ha (hs.sub hp)
theorem Cd.env {σ' : Env} (h : Cd C c Q σ' L) (he : σ = σ') : Cd C c Q σ L := he ▸ h
theorem Cd.has {l : List (Nat × Value)} (hs : Has σ l) (h : Cd C c Q (upds σ l) L) : Cd C c Q σ L := hs.eq ▸ h
theorem Cd.skip (h : Q .normal σ L) : Cd C .skip Q σ L := fun _ _ ha hs => wpIn_skip ⟨σ, L, ha, hs, h⟩
theorem Cd.exit {id : Nat} (h : Q (.exit id) σ L) : Cd C (.exit id) Q σ L := fun _ _ ha hs => wpIn_exit ⟨σ, L, ha, hs, h⟩
theorem Cd.ret (h : Q .ret σ L) : Cd C .ret Q σ L := fun _ _ ha hs => wpIn_ret ⟨σ, L, ha, hs, h⟩
/-- On: what follows where code ends normally. -/
def On (N : Env → List Res → Prop) (Q : Exit → Env → List Res → Prop) : Exit → Env → List Res → Prop
  | .normal, σ, L => N σ L
  | e, σ, L => Q e σ L
theorem Cd.seq (h : Cd C x (On (Cd C y Q) Q) σ L) : Cd C (.seq x y) Q σ L := fun a w ha hs =>
  wpIn_seq (Go.wpIn_mono (h a w ha hs) fun e a' w' ⟨σ', L', h1, h2, h3⟩ => by
    cases e with
    | normal => exact h3 a' w' h1 h2
    | _ => exact ⟨σ', L', h1, h2, h3⟩)
/-- Code with a condition between: whichever way the first part ends normally. -/
theorem Cd.mid (Mid : Env → List Res → Prop) (h : Cd C x (On Mid Q) σ L) (k : ∀ σ L, Mid σ L → Cd C y Q σ L) : Cd C (.seq x y) Q σ L :=
  Cd.seq (Cd.mono h fun e σ L hq => by
    cases e with
    | normal => exact k σ L hq
    | _ => exact hq)
theorem Cd.cond {t : Operand} {b : Bool} (hc : ev σ t = .bool b) (h1 : b = true → Cd C x Q σ L) (h2 : b = false → Cd C y Q σ L) : Cd C (.cond t x y) Q σ L := fun a w ha hs =>
  wpIn_cond_split (t := b) (by rw [ha.eval]; exact hc) (fun e => h1 e a w ha hs) (fun e => h2 e a w ha hs)
def InB (id : Nat) (Q : Exit → Env → List Res → Prop) : Exit → Env → List Res → Prop
  | .exit id', σ, L => bif Nat.beq id' id then Q .normal σ L else Q (.exit id') σ L
  | e, σ, L => Q e σ L
theorem Cd.block {id : Nat} (h : Cd C x (InB id Q) σ L) : Cd C (.block id x) Q σ L := fun a w ha hs =>
  wpIn_block (Go.wpIn_mono (h a w ha hs) fun e a' w' ⟨σ', L', h1, h2, h3⟩ => by
    cases e with
    | exit id' =>
      simp only [InB] at h3
      simp only [Exit.inBlock]
      by_cases hid : id' = id
      · have hb : Nat.beq id' id = true := by simpa using hid
        rw [if_pos hid]
        rw [hb] at h3
        exact ⟨σ', L', h1, h2, h3⟩
      · have hb : Nat.beq id' id = false := beq_ne hid
        rw [if_neg hid]
        rw [hb] at h3
        exact ⟨σ', L', h1, h2, h3⟩
    | _ => exact ⟨σ', L', h1, h2, h3⟩)
/-- A loop, by a relation that bears a number which every round lowers. -/
theorem Cd.loop (I : Nat → Env → List Res → Prop) {n : Nat} (h0 : I n σ L) (hr : ∀ n σ L, I n σ L → Cd C c (On (fun σ' L' => ∃ m, m < n ∧ I m σ' L') Q) σ L) : Cd C (.loop c) Q σ L := by
  intro a w ha hs b k cs hro hb hroom
  have key : ∀ n a w σ L, I n σ L → Agree a σ → St C L a w →
      ∃ e a' w', (∃ σ' L', Agree a' σ' ∧ St C L' a' w' ∧ Q e σ' L') ∧ ArrivesIn (Machine.fenced C.P (FR C.r)) C.P (lone (b.atR a (.code c :: .inLoop c :: k)) cs w) b k cs e a' w' := by
    intro n
    induction n using Nat.strongRecOn with
    | _ n ih =>
      intro a w σ L hI ha hs
      obtain ⟨e, a₁, w₁, ⟨σ', L', h1, h2, hq⟩, harr⟩ := hr n σ L hI a w ha hs b (.inLoop c :: k) cs hro hb hroom
      cases e with
      | normal =>
        obtain ⟨m, hlt, hI₁⟩ := hq
        obtain ⟨e₂, a₂, w₂, hq₂, harr₂⟩ := ih m hlt a₁ w₁ σ' L' hI₁ h1 h2
        exact ⟨e₂, a₂, w₂, hq₂, .of_steps (StepsIn.trans harr (.one (fenced_calm hb hroom rfl) stepR_inLoop)) harr₂⟩
      | exit id => exact ⟨_, a₁, w₁, ⟨σ', L', h1, h2, hq⟩, .pass (x := .inLoop c) rfl (fun _ _ => .inl (by simp)) harr⟩
      | goto l => exact ⟨_, a₁, w₁, ⟨σ', L', h1, h2, hq⟩, .pass (x := .inLoop c) rfl (fun _ _ => .inl (by simp)) harr⟩
      | ret => exact ⟨_, a₁, w₁, ⟨σ', L', h1, h2, hq⟩, .pass (x := .inLoop c) rfl (fun _ _ => .inl (by simp)) harr⟩
      | panic ch => exact ⟨_, a₁, w₁, ⟨σ', L', h1, h2, hq⟩, .pass (x := .inLoop c) rfl (fun _ _ => .inl (by simp)) harr⟩
      | outgrown => exact ⟨_, a₁, w₁, ⟨σ', L', h1, h2, hq⟩, .pass (x := .inLoop c) rfl (fun _ _ => .inl (by simp)) harr⟩
  obtain ⟨e, a', w', hq, harr⟩ := key n a w σ L h0 ha hs
  exact ⟨e, a', w', hq, .of_steps (.one (fenced_calm hb hroom rfl) stepR_loop) harr⟩
theorem Ol.mono (h : Ol C all l K σ L) (hk : ∀ σ L, K σ L → K' σ L) : Ol C all l K' σ L := fun a w Q ha hs hq => h a w Q ha hs fun a' w' σ' L' h1 h2 h3 => hq a' w' σ' L' h1 h2 (hk _ _ h3)
theorem Cd.region {id : Nat} {l : List Oper} (h : Ol C l.toArray l (fun σ L => Q .normal σ L) σ L) : Cd C (.region id l.toArray false) Q σ L := fun a w ha hs =>
  wpIn_region_lit (h a w _ ha hs fun _ _ σ' L' h1 h2 h3 => ⟨σ', L', h1, h2, h3⟩)
theorem Ol.nil (h : K σ L) : Ol C all [] K σ L := fun a w _ ha hs hq => hq a w σ L ha hs h
/-- What the guard of an operation says: none: it is carried out. -/
def wants (all : Array Oper) (σ : Env) (o : Oper) : Bool := match o.guard with
  | none => true
  | some (j, want) => match ((all[j]?).bind (·.dst)).map σ with
    | some (.bool b) => b == want
    | _ => false
theorem wanted_eq {a : Act} (ha : Agree a σ) (hw : wants all σ o = true) : Region.wanted o (yielded all a.tmps) = true := by
  unfold wants at hw
  unfold Region.wanted
  cases hg : o.guard with
  | none => rfl
  | some g =>
    obtain ⟨j, want⟩ := g
    simp only [hg] at hw
    simp only
    unfold yielded
    cases hd : (all[j]?).bind (·.dst) with
    | none => simp [hd] at hw
    | some d =>
      simp only [hd, Option.map_some] at hw
      have hd2 := ha d
      simp only [Option.bind_some]
      cases hv : a.tmps[d]? with
      | none =>
        simp [Array.getD_eq_getD_getElem?, hv] at hd2
        rw [← hd2] at hw
        simp [undef] at hw
      | some v =>
        simp [Array.getD_eq_getD_getElem?, hv] at hd2
        subst hd2
        cases hs : σ d <;> simp [hs] at hw ⊢
        exact hw
theorem wanted_ne {a : Act} (ha : Agree a σ) (hw : wants all σ o = false) : Region.wanted o (yielded all a.tmps) = false := by
  unfold wants at hw
  unfold Region.wanted
  cases hg : o.guard with
  | none => simp [hg] at hw
  | some g =>
    obtain ⟨j, want⟩ := g
    simp only [hg] at hw
    simp only
    unfold yielded
    cases hd : (all[j]?).bind (·.dst) with
    | none => simp
    | some d =>
      simp only [hd, Option.map_some] at hw
      have hd2 := ha d
      simp only [Option.bind_some]
      cases hv : a.tmps[d]? with
      | none => simp
      | some v =>
        simp [Array.getD_eq_getD_getElem?, hv] at hd2
        subst hd2
        cases hs : σ d <;> simp [hs] at hw ⊢
        exact hw
theorem Ol.go {R : Value → List Res → Prop} (hg : wants all σ o = true) (h : Sp C.P C.w0 C.B o σ L R) (hd : ∀ t, o.dst = some t → t < C.N) (hk : ∀ v L', R v L' → Ol C all rest K (updO σ o.dst v) L') : Ol C all (o :: rest) K σ L := by
  intro a w Q ha hs hq
  have hgo := h (hid C a) w hs.heap
  unfold wpListIn
  rw [if_pos (wanted_eq ha hg)]
  refine hgo.wpIn ha ?_
  rintro v w' ⟨L', hh, hR⟩
  refine hk v L' hR (a.put o.dst v) w' Q (ha.put v (fun t ht => by rw [hs.size]; exact hd t ht)) ⟨by rw [put_size]; exact hs.size, by rw [hid_put]; exact hh⟩ hq
theorem Ol.pass (hg : wants all σ o = false) (hd : ∀ t, o.dst = some t → t < C.N) (hk : Ol C all rest K (updO σ o.dst undef) L) : Ol C all (o :: rest) K σ L := by
  intro a w Q ha hs hq
  unfold wpListIn
  rw [if_neg (by rw [wanted_ne ha hg]; simp)]
  exact ⟨fun _ _ => trivial, hk (a.put o.dst undef) w Q (ha.put undef (fun t ht => by rw [hs.size]; exact hd t ht)) ⟨by rw [put_size]; exact hs.size, by rw [hid_put]; exact hs.heap⟩ hq⟩
end
/-- Is a slot one of the frame's? -/
def okDst (N : Nat) : Option Nat → Bool
  | some t => Nat.blt t N
  | none => true
theorem okDst_lt {N : Nat} {d : Option Nat} (h : okDst N d = true) : ∀ t, d = some t → t < N := by
  rintro t rfl
  exact Nat.le_of_ble_eq_true h
section
variable {C : Ctx} {σ : Env} {L : List Res} {K : Env → List Res → Prop} {all : Array Oper} {rest : List Oper} {op : Op} {d : Option Nat} {ty : TypeId} {pos : String} {af : Array Edge} {gd : Option (Nat × Bool)}
/-- A step whose value and heap are known. -/
theorem Ol.s {v : Value} {L' : List Res} (h : Sp C.P C.w0 C.B ⟨d, op, ty, pos, af, none⟩ σ L (det v L')) (hk : Ol C all rest K (updO σ d v) L') (hd : okDst C.N d = true := by rfl) : Ol C all (⟨d, op, ty, pos, af, none⟩ :: rest) K σ L :=
  Ol.go rfl h (okDst_lt hd) fun _ _ ⟨h1, h2⟩ => by subst h1; subst h2; exact hk
/-- A step that turns nothing. -/
theorem Ol.p {v : Value} (h : Sd C.P C.w0 C.B ⟨d, op, ty, pos, af, none⟩ σ L v) (hk : Ol C all rest K (updO σ d v) L) (hd : okDst C.N d = true := by rfl) : Ol C all (⟨d, op, ty, pos, af, none⟩ :: rest) K σ L :=
  Ol.s h.sp hk hd
/-- A step whose value is one of some. -/
theorem Ol.x {R : Value → List Res → Prop} (h : Sp C.P C.w0 C.B ⟨d, op, ty, pos, af, none⟩ σ L R) (hk : ∀ v L', R v L' → Ol C all rest K (updO σ d v) L') (hd : okDst C.N d = true := by rfl) : Ol C all (⟨d, op, ty, pos, af, none⟩ :: rest) K σ L :=
  Ol.go rfl h (okDst_lt hd) hk
theorem Ol.gs {v : Value} {L' : List Res} {j : Nat} {b b' : Bool} {t : Nat} (he : b' = b) (h : Sp C.P C.w0 C.B ⟨d, op, ty, pos, af, some (j, b)⟩ σ L (det v L')) (hk : Ol C all rest K (updO σ d v) L')
    (hj : (all[j]?).bind (·.dst) = some t := by rfl) (hb : σ t = .bool b' := by rfl) (hd : okDst C.N d = true := by rfl) : Ol C all (⟨d, op, ty, pos, af, some (j, b)⟩ :: rest) K σ L :=
  Ol.go (by simp [wants, hj, hb, he]) h (okDst_lt hd) fun _ _ ⟨h1, h2⟩ => by subst h1; subst h2; exact hk
theorem Ol.gp {v : Value} {j : Nat} {b b' : Bool} {t : Nat} (he : b' = b) (h : Sd C.P C.w0 C.B ⟨d, op, ty, pos, af, some (j, b)⟩ σ L v) (hk : Ol C all rest K (updO σ d v) L)
    (hj : (all[j]?).bind (·.dst) = some t := by rfl) (hb : σ t = .bool b' := by rfl) (hd : okDst C.N d = true := by rfl) : Ol C all (⟨d, op, ty, pos, af, some (j, b)⟩ :: rest) K σ L :=
  Ol.gs he h.sp hk hj hb hd
theorem Ol.gx {R : Value → List Res → Prop} {j : Nat} {b b' : Bool} {t : Nat} (he : b' = b) (h : Sp C.P C.w0 C.B ⟨d, op, ty, pos, af, some (j, b)⟩ σ L R) (hk : ∀ v L', R v L' → Ol C all rest K (updO σ d v) L')
    (hj : (all[j]?).bind (·.dst) = some t := by rfl) (hb : σ t = .bool b' := by rfl) (hd : okDst C.N d = true := by rfl) : Ol C all (⟨d, op, ty, pos, af, some (j, b)⟩ :: rest) K σ L :=
  Ol.go (by simp [wants, hj, hb, he]) h (okDst_lt hd) hk
theorem Ol.gn {j : Nat} {b b' c : Bool} {t : Nat} (he : b' = c) (hk : Ol C all rest K (updO σ d undef) L)
    (hj : (all[j]?).bind (·.dst) = some t := by rfl) (hb : σ t = .bool b' := by rfl) (hd : okDst C.N d = true := by rfl) (hn : (c == b) = false := by rfl) : Ol C all (⟨d, op, ty, pos, af, some (j, b)⟩ :: rest) K σ L :=
  Ol.pass (by subst he; simp only [wants, hj, hb, Option.map_some]; exact hn) (okDst_lt hd) hk
theorem Ol.gu {j : Nat} {b : Bool} {t : Nat} (hk : Ol C all rest K (updO σ d undef) L)
    (hj : (all[j]?).bind (·.dst) = some t := by rfl) (hb : σ t = undef := by rfl) (hd : okDst C.N d = true := by rfl) : Ol C all (⟨d, op, ty, pos, af, some (j, b)⟩ :: rest) K σ L :=
  Ol.pass (by simp only [wants, hj, hb, Option.map_some, undef]) (okDst_lt hd) hk
end

end Go.Proofs.Ytbcnejobnmljlaa
