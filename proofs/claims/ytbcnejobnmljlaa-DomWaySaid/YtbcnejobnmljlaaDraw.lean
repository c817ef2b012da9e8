/- A region whose order is drawn: one walk of the text's order serves every order. The first m operations turn nothing that was there: each hands over its value (and new blocks of its own); the others come behind all of these, in turn. -/
import Derived.Test.YtbcnejobnmljlaaFn
namespace Go.Proofs.Ytbcnejobnmljlaa
set_option linter.unusedVariables false
open Go Go.RowKit

/-! ### Who stands ahead of whom -/
inductive Anc (ops : Array Oper) : Nat → Nat → Prop
  | direct {k : Nat} {o : Oper} {e : Edge} : ops[k]? = some o → e ∈ o.after → Region.binds .any e = true → Anc ops k e.on
  | trans {k : Nat} {o : Oper} {e : Edge} {j : Nat} : ops[k]? = some o → e ∈ o.after → Region.binds .any e = true → Anc ops e.on j → Anc ops k j
theorem anc_in {ops : Array Oper} {D : Nat → Prop} (hD : ∀ k, D k → ∀ o, ops[k]? = some o → ∀ e ∈ o.after, Region.binds .any e = true → D e.on) {k j : Nat} (h : Anc ops k j) :
    (∀ o, ops[k]? = some o → ∀ e ∈ o.after, Region.binds .any e = true → D e.on) → D j := by
  induction h with
  | direct ho he hb => exact fun hk => hk _ ho _ he hb
  | trans ho he hb _ ih => exact fun hk => ih (fun o ho' e' he' hb' => hD _ (hk _ ho _ he hb) o ho' e' he' hb')
def befStep (acc : Array Nat) (o : Oper) : Array Nat :=
  acc.push (o.after.toList.foldl (fun s e => if Region.binds .any e then s ||| 2 ^ e.on ||| acc.getD e.on 0 else s) 0)
def bef (ops : Array Oper) : Array Nat := ops.toList.foldl befStep #[]
theorem fold_bit (acc : Array Nat) (j : Nat) : ∀ (es : List Edge) (s : Nat), (es.foldl (fun s e => if Region.binds .any e then s ||| 2 ^ e.on ||| acc.getD e.on 0 else s) s).testBit j = true →
    s.testBit j = true ∨ ∃ e ∈ es, Region.binds .any e = true ∧ (j = e.on ∨ (acc.getD e.on 0).testBit j = true)
  | [], s, h => .inl h
  | e :: es, s, h => by
    rcases fold_bit acc j es _ h with h1 | ⟨e', he', hb, h2⟩
    · dsimp only at h1
      by_cases hb : Region.binds .any e = true
      · rw [if_pos hb, Nat.testBit_or, Nat.testBit_or, Nat.testBit_two_pow] at h1
        simp only [Bool.or_eq_true, decide_eq_true_eq] at h1
        rcases h1 with (h1 | h1) | h1
        · exact .inl h1
        · exact .inr ⟨e, by simp, hb, .inl h1.symm⟩
        · exact .inr ⟨e, by simp, hb, .inr h1⟩
      · rw [if_neg hb] at h1; exact .inl h1
    · exact .inr ⟨e', by simp [he'], hb, h2⟩
theorem bef_go (ops : Array Oper) : ∀ (l : List Oper) (acc : Array Nat), (∀ i o, l[i]? = some o → ops[acc.size + i]? = some o) → (∀ k j, (acc.getD k 0).testBit j = true → Anc ops k j) →
    ∀ k j, ((l.foldl befStep acc).getD k 0).testBit j = true → Anc ops k j
  | [], acc, _, h, k, j, hk => h k j hk
  | o :: l, acc, hl, h, k, j, hk => by
    refine bef_go ops l (befStep acc o) (fun i o' hi => ?_) (fun k j hk => ?_) k j hk
    · have := hl (i + 1) o' (by simpa using hi)
      simpa [befStep, Nat.add_assoc, Nat.add_comm 1 i] using this
    · unfold befStep at hk
      rcases Nat.lt_trichotomy k acc.size with hlt | heq | hgt
      · refine h k j ?_
        rw [Array.getD_eq_getD_getElem?] at hk ⊢
        rwa [Array.getElem?_push_lt hlt, ← Array.getElem?_eq_getElem hlt] at hk
      · subst heq
        rw [Array.getD_eq_getD_getElem?, Array.getElem?_push_size, Option.getD_some] at hk
        rcases fold_bit acc j _ _ hk with h0 | ⟨e, he, hb, h0⟩
        · simp at h0
        · have ho : ops[acc.size]? = some o := by simpa using hl 0 o (by simp)
          have he' : e ∈ o.after := by simpa using he
          rcases h0 with rfl | h0
          · exact .direct ho he' hb
          · exact .trans ho he' hb (h e.on j (by simpa using h0))
      · simp only [Array.getD_eq_getD_getElem?] at hk
        rw [Array.getElem?_eq_none (by simp; omega)] at hk
        simp at hk
theorem bef_anc {ops : Array Oper} {k j : Nat} (h : ((bef ops).getD k 0).testBit j = true) : Anc ops k j :=
  bef_go ops ops.toList #[] (fun i o h => by simpa using h) (fun k j h => by simp at h) k j h

/-! ### What must be so of a region: a closed test -/
def tmpsOf (o : Oper) : List Nat := o.op.operands.toList.filterMap fun | .tmp t => some t | _ => none
def noSel (o : Oper) : Bool := match o.op with | .select .. => false | _ => true
def opOk (ops : Array Oper) (b : Array Nat) (m : Nat) (nd : Nat → List Nat) (k : Nat) (o : Oper) : Bool :=
  noSel o && o.after.toList.all (fun e => !Region.binds .any e || Nat.blt e.on k) &&
  bif Nat.blt k m then
    ((List.range m).all fun j => match (ops[j]?).bind (·.dst) with
      | some t => (!((tmpsOf o).any (Nat.beq t)) || (Nat.blt j k && (b.getD k 0).testBit j)) && (Nat.beq j k || match o.dst with | some t' => !Nat.beq t t' | none => true) &&
          (match o.guard with | some (g, _) => (match (ops[g]?).bind (·.dst) with | some tg => !Nat.beq t tg || (Nat.blt j k && (b.getD k 0).testBit j) | none => true) | none => true)
      | none => true) &&
    ((nd k).all fun j => Nat.blt j k && (b.getD k 0).testBit j) && (nd k).eraseDups.length == (nd k).length
  else (List.range k).all fun j => (b.getD k 0).testBit j
def drawOk (ops : Array Oper) (m : Nat) (nd : Nat → List Nat) : Bool :=
  let b := bef ops
  Nat.ble m ops.size && (List.range ops.size).all fun k => match ops[k]? with | some o => opOk ops b m nd k o | none => true

/-! ### The walk -/
abbrev Got := Nat → Value × List Res
def needs (u : Got) (l : List Nat) (L0 : List Res) : List Res := l.flatMap (fun c => (u c).2) ++ L0
/-- ex: which operations make something new, and what it is; nd: whose new things one reads. -/
def Wk (C : Ctx) (all : Array Oper) (ex : Nat → Option (Value → List Res → Prop)) (nd : Nat → List Nat) (u : Got) (L0 : List Res) : Nat → List Oper → Env → List Nat → (Env → List Nat → Prop) → Prop
  | _, [], σ, E, K => K σ E
  | k, o :: rest, σ, E, K =>
    bif wants all σ o then
      (∀ c ∈ nd k, c ∈ E) ∧ okDst C.N o.dst = true ∧
      match ex k with
      | some V => Sp C.P C.w0 C.B o σ (needs u (nd k) L0) (Adds V (needs u (nd k) L0)) ∧ Wk C all ex nd u L0 (k + 1) rest (updO σ o.dst (u k).1) (k :: E) K
      | none => ∃ v, Sd C.P C.w0 C.B o σ (needs u (nd k) L0) v ∧ Wk C all ex nd u L0 (k + 1) rest (updO σ o.dst v) E K
    else okDst C.N o.dst = true ∧ Wk C all ex nd u L0 (k + 1) rest (updO σ o.dst undef) E K
/-- The environment ahead of the operation behind some, whose values are known. -/
def envAt : List Oper → List Value → Env → Env
  | o :: os, v :: vs, σ => envAt os vs (updO σ o.dst v)
  | _, _, σ => σ
/-- What the walk says of operation k, its value v, in σ; E: what has been made ahead of it. -/
def Step (C : Ctx) (all : Array Oper) (ex : Nat → Option (Value → List Res → Prop)) (nd : Nat → List Nat) (u : Got) (L0 : List Res) (k : Nat) (o : Oper) (σ : Env) (E : List Nat) (v : Value) : Prop :=
  okDst C.N o.dst = true ∧
  ((wants all σ o = true ∧ (∀ c ∈ nd k, c ∈ E) ∧ ((∃ V, ex k = some V ∧ v = (u k).1 ∧ Sp C.P C.w0 C.B o σ (needs u (nd k) L0) (Adds V (needs u (nd k) L0))) ∨ (ex k = none ∧ Sd C.P C.w0 C.B o σ (needs u (nd k) L0) v))) ∨
   (wants all σ o = false ∧ v = undef))
def made (all : Array Oper) (ex : Nat → Option (Value → List Res → Prop)) (k : Nat) (o : Oper) (σ : Env) (E : List Nat) : List Nat :=
  if wants all σ o = true ∧ (ex k).isSome = true then k :: E else E
def exAt (all : Array Oper) (ex : Nat → Option (Value → List Res → Prop)) : Nat → List Oper → List Value → Env → List Nat → List Nat
  | k, o :: os, v :: vs, σ, E => exAt all ex (k + 1) os vs (updO σ o.dst v) (made all ex k o σ E)
  | _, _, _, _, E => E
theorem Wk.vals {C : Ctx} {all : Array Oper} {ex : Nat → Option (Value → List Res → Prop)} {nd : Nat → List Nat} {u : Got} {L0 : List Res} {K : Env → List Nat → Prop} :
    ∀ (l : List Oper) (k : Nat) (σ : Env) (E : List Nat), Wk C all ex nd u L0 k l σ E K →
      ∃ vs : List Value, vs.length = l.length ∧ (∀ i o v, l[i]? = some o → vs[i]? = some v → Step C all ex nd u L0 (k + i) o (envAt (l.take i) (vs.take i) σ) (exAt all ex k (l.take i) (vs.take i) σ E) v) ∧ K (envAt l vs σ) (exAt all ex k l vs σ E)
  | [], k, σ, E, h => ⟨[], rfl, fun i o v h => by simp at h, h⟩
  | o :: l, k, σ, E, h => by
    have key : ∀ v E', Step C all ex nd u L0 k o σ E v → E' = made all ex k o σ E → Wk C all ex nd u L0 (k + 1) l (updO σ o.dst v) E' K →
        ∃ vs : List Value, vs.length = (o :: l).length ∧ (∀ i o' v, (o :: l)[i]? = some o' → vs[i]? = some v → Step C all ex nd u L0 (k + i) o' (envAt ((o :: l).take i) (vs.take i) σ) (exAt all ex k ((o :: l).take i) (vs.take i) σ E) v) ∧ K (envAt (o :: l) vs σ) (exAt all ex k (o :: l) vs σ E) := by
      rintro v E' hs rfl hw
      obtain ⟨vs, h1, h2, h3⟩ := Wk.vals l (k + 1) _ _ hw
      refine ⟨v :: vs, by simp [h1], ?_, h3⟩
      intro i o' v' hi hv
      cases i with
      | zero =>
        simp only [List.getElem?_cons_zero, Option.some.injEq] at hi hv
        subst hi; subst hv
        exact hs
      | succ i =>
        have := h2 i o' v' (by simpa using hi) (by simpa using hv)
        rw [show k + 1 + i = k + (i + 1) from by omega] at this
        exact this
    unfold Wk at h
    cases hw : wants all σ o with
    | true =>
      simp only [hw, cond_true] at h
      obtain ⟨hn, hd, h⟩ := h
      cases hx : ex k with
      | some V =>
        simp only [hx] at h
        exact key (u k).1 (k :: E) ⟨hd, .inl ⟨hw, hn, .inl ⟨V, hx, rfl, h.1⟩⟩⟩ (by simp [made, hw, hx]) h.2
      | none =>
        simp only [hx] at h
        obtain ⟨v, hs, h⟩ := h
        exact key v E ⟨hd, .inl ⟨hw, hn, .inr ⟨hx, hs⟩⟩⟩ (by simp [made, hx]) h
    | false =>
      simp only [hw, cond_false] at h
      exact key undef E ⟨h.1, .inr ⟨hw, rfl⟩⟩ (by simp [made, hw]) h.2
theorem updO_other {σ : Env} {d : Option Nat} {v : Value} {t : Nat} (h : d ≠ some t) : updO σ d v t = σ t := by
  cases d with
  | none => rfl
  | some d => exact upd_other _ _ _ _ (fun e => h (by rw [e]))
theorem updO_same {σ : Env} {d : Option Nat} {v : Value} {t : Nat} (h : d = some t) : updO σ d v t = v := by subst h; exact upd_same _ _ _
theorem envAt_none : ∀ (l : List Oper) (vs : List Value) (σ : Env) (t : Nat), (∀ (j : Nat) (o : Oper), l[j]? = some o → o.dst ≠ some t) → envAt l vs σ t = σ t
  | [], _, _, _, _ => by simp [envAt]
  | _ :: _, [], _, _, _ => by simp [envAt]
  | o :: l, v :: vs, σ, t, h => by
    rw [envAt, envAt_none l vs _ t (fun j o' hj => h (j + 1) o' (by simpa using hj)), updO_other (h 0 o (by simp))]
theorem envAt_one : ∀ (l : List Oper) (vs : List Value) (σ : Env) (t j : Nat) (o : Oper) (v : Value), l[j]? = some o → vs[j]? = some v → o.dst = some t → (∀ (j' : Nat) (o' : Oper), l[j']? = some o' → j' ≠ j → o'.dst ≠ some t) → envAt l vs σ t = v
  | [], _, _, _, _, _, _, h, _, _, _ => by simp at h
  | _ :: _, [], _, _, _, _, _, _, h, _, _ => by simp at h
  | o :: l, v :: vs, σ, t, 0, o1, v1, hl, hv, ho, hu => by
    simp only [List.getElem?_cons_zero, Option.some.injEq] at hl hv
    subst hl; subst hv
    rw [envAt, envAt_none l vs _ t (fun j o' hj => hu (j + 1) o' (by simpa using hj) (by omega)), updO_same ho]
  | o :: l, v :: vs, σ, t, j + 1, o1, v1, hl, hv, ho, hu => by
    rw [envAt]
    exact envAt_one l vs _ t j o1 v1 (by simpa using hl) (by simpa using hv) ho (fun j' o' hj hne => hu (j' + 1) o' (by simpa using hj) (by omega))
theorem exAt_mem {all : Array Oper} {ex : Nat → Option (Value → List Res → Prop)} : ∀ (l : List Oper) (vs : List Value) (k : Nat) (σ : Env) (E : List Nat) (c : Nat),
    c ∈ exAt all ex k l vs σ E ↔ c ∈ E ∨ ∃ i o v, l[i]? = some o ∧ vs[i]? = some v ∧ c = k + i ∧ wants all (envAt (l.take i) (vs.take i) σ) o = true ∧ (ex c).isSome = true
  | [], _, _, _, _, _ => by simp [exAt]
  | _ :: _, [], _, _, _, _ => by simp [exAt]
  | o :: l, v :: vs, k, σ, E, c => by
    rw [exAt, exAt_mem l vs (k + 1)]
    constructor
    · rintro (h | ⟨i, o', v', h1, h2, rfl, h3, h4⟩)
      · unfold made at h
        split at h
        · rename_i hc
          rcases List.mem_cons.1 h with rfl | h
          · exact .inr ⟨0, o, v, by simp, by simp, by simp, by simpa [envAt] using hc.1, hc.2⟩
          · exact .inl h
        · exact .inl h
      · exact .inr ⟨i + 1, o', v', by simpa using h1, by simpa using h2, by omega, by simpa [envAt] using h3, h4⟩
    · rintro (h | ⟨i, o', v', h1, h2, rfl, h3, h4⟩)
      · left; unfold made; split
        · simp [h]
        · exact h
      · cases i with
        | zero =>
          simp only [List.getElem?_cons_zero, Option.some.injEq] at h1 h2
          subst h1
          left
          unfold made
          rw [if_pos ⟨by simpa [envAt] using h3, h4⟩]
          simp
        | succ i => exact .inr ⟨i, o', v', by simpa using h1, by simpa using h2, by omega, by simpa [envAt] using h3, h4⟩
theorem exAt_nodup {all : Array Oper} {ex : Nat → Option (Value → List Res → Prop)} : ∀ (l : List Oper) (vs : List Value) (k : Nat) (σ : Env) (E : List Nat), E.Nodup → (∀ c ∈ E, c < k) → (exAt all ex k l vs σ E).Nodup
  | [], _, _, _, _, h, _ => by simpa [exAt] using h
  | _ :: _, [], _, _, _, h, _ => by simpa [exAt] using h
  | o :: l, v :: vs, k, σ, E, h, hk => by
    rw [exAt]
    refine exAt_nodup l vs (k + 1) _ _ ?_ ?_
    · unfold made; split
      · exact List.nodup_cons.2 ⟨fun hc => by have := hk k hc; omega, h⟩
      · exact h
    · intro c hc
      unfold made at hc; split at hc
      · rcases List.mem_cons.1 hc with rfl | hc
        · omega
        · have := hk c hc; omega
      · have := hk c hc; omega
theorem envAt_take {l : List Oper} {vs : List Value} {σ : Env} {k : Nat} (o : Oper) (v : Value) (h1 : l[k]? = some o) (h2 : vs[k]? = some v) : envAt (l.take (k + 1)) (vs.take (k + 1)) σ = updO (envAt (l.take k) (vs.take k) σ) o.dst v := by
  induction k generalizing l vs σ with
  | zero =>
    cases l with
    | nil => simp at h1
    | cons a l => cases vs with
      | nil => simp at h2
      | cons b vs => simp at h1 h2; subst h1; subst h2; simp [envAt]
  | succ k ih =>
    cases l with
    | nil => simp at h1
    | cons a l => cases vs with
      | nil => simp at h2
      | cons b vs =>
        simp only [List.take_succ_cons, envAt]
        exact ih (by simpa using h1) (by simpa using h2)

theorem perm_needs {nd Ex : List Nat} (hs : ∀ c ∈ nd, c ∈ Ex) (hn : nd.Nodup) (he : Ex.Nodup) : ∃ R, Ex.Perm (nd ++ R) := by
  refine ⟨Ex.filter (fun c => !nd.contains c), ?_⟩
  refine (List.perm_ext_iff_of_nodup he ?_).2 ?_
  · refine List.nodup_append.2 ⟨hn, he.filter _, ?_⟩
    intro a ha b hb hab
    subst hab
    simp at hb
    exact hb.2 ha
  · intro c
    simp only [List.mem_append, List.mem_filter, Bool.not_eq_true', List.contains_eq_mem, decide_eq_false_iff_not]
    constructor
    · intro h
      by_cases hc : c ∈ nd
      · exact .inl hc
      · exact .inr ⟨h, hc⟩
    · rintro (h | h)
      · exact hs c h
      · exact h.1

/-! ### Every order -/
section
variable {C : Ctx} {l : List Oper} {m : Nat} {nd : Nat → List Nat} {ex : Nat → Option (Value → List Res → Prop)} {σ : Env} {L0 : List Res} {Q : Exit → Act → World → Prop}
def Ls (listed : Array Bool) (j : Nat) : Prop := listed.getD j false = true
theorem Ls.lt {listed : Array Bool} {j : Nat} (h : Ls listed j) : j < listed.size := by
  unfold Ls at h
  rcases Nat.lt_or_ge j listed.size with h' | h'
  · exact h'
  · rw [Array.getD_eq_getD_getElem?, Array.getElem?_eq_none h'] at h; cases h
theorem ls_rep {n j : Nat} (h : Ls (Array.replicate n false) j) : False := by
  unfold Ls at h
  rw [Array.getD_eq_getD_getElem?, Array.getElem?_replicate] at h
  split at h <;> simp at h
theorem Ls.set_iff {listed : Array Bool} {i j : Nat} (hi : i < listed.size) : Ls (listed.setIfInBounds i true) j ↔ j = i ∨ Ls listed j := by
  unfold Ls
  by_cases h : i = j
  · subst h; simp [hi]
  · rw [Array.getD_eq_getD_getElem?, Array.getElem?_setIfInBounds_ne h, ← Array.getD_eq_getD_getElem?]
    simp [Ne.symm h]
theorem not_ls {listed : Array Bool} {j : Nat} (hj : j < listed.size) : ¬ Ls listed j ↔ listed.getD j true = false := by
  unfold Ls
  simp [Array.getElem?_eq_getElem hj]
def Shut (ops : Array Oper) (listed : Array Bool) : Prop := ∀ k, Ls listed k → ∀ o, ops[k]? = some o → ∀ e ∈ o.after, Region.binds .any e = true → Ls listed e.on
theorem Shut.set {ops : Array Oper} {listed : Array Bool} {i : Nat} (h : Shut ops listed) (hi : i ∈ Region.ready .any ops listed) (hlt : i < listed.size) : Shut ops (listed.setIfInBounds i true) := by
  intro k hk o ho e he hb
  rw [Ls.set_iff hlt] at hk ⊢
  rcases hk with rfl | hk
  · obtain ⟨_, o', ho', hall⟩ := mem_ready.1 hi
    rw [ho] at ho'; cases ho'
    exact .inr (hall e he hb)
  · exact .inr (h k hk o ho e he hb)
theorem ready_anc {ops : Array Oper} {listed : Array Bool} {i j : Nat} (h : Shut ops listed) (hi : i ∈ Region.ready .any ops listed) (ha : Anc ops i j) : Ls listed j := by
  obtain ⟨_, o', ho', hall⟩ := mem_ready.1 hi
  exact anc_in (D := Ls listed) h ha (fun o ho e he hb => by rw [ho] at ho'; cases ho'; exact hall e he hb)
structure Ok (ops : Array Oper) (m : Nat) (nd : Nat → List Nat) : Prop where
  le : m ≤ ops.size
  sel : ∀ (k : Nat) (o : Oper), ops[k]? = some o → ∀ cs b, o.op ≠ .select cs b
  back : ∀ (k : Nat) (o : Oper), ops[k]? = some o → ∀ e ∈ o.after, Region.binds .any e = true → e.on < k
  look : ∀ (k : Nat) (o : Oper), k < m → ops[k]? = some o → ∀ (j : Nat) (o' : Oper), j < m → ops[j]? = some o' → ∀ t, o'.dst = some t → Operand.tmp t ∈ o.op.operands → j < k ∧ Anc ops k j
  gard : ∀ (k : Nat) (o : Oper), k < m → ops[k]? = some o → ∀ g b, o.guard = some (g, b) → ∀ tg, (ops[g]?).bind (·.dst) = some tg → ∀ (j : Nat) (o' : Oper), j < m → ops[j]? = some o' → o'.dst = some tg → j < k ∧ Anc ops k j
  uniq : ∀ (k : Nat) (o : Oper), k < m → ops[k]? = some o → ∀ (j : Nat) (o' : Oper), j < m → ops[j]? = some o' → j ≠ k → ∀ t, o'.dst = some t → o.dst ≠ some t
  need : ∀ (k : Nat) (o : Oper), k < m → ops[k]? = some o → ∀ c ∈ nd k, c < k ∧ Anc ops k c
  nodu : ∀ (k : Nat) (o : Oper), k < m → ops[k]? = some o → (nd k).Nodup
  tail : ∀ (k : Nat) (o : Oper), m ≤ k → ops[k]? = some o → ∀ j, j < k → Anc ops k j
theorem eraseDups_nodup {l : List Nat} (h : l.eraseDups.length = l.length) : l.Nodup := by
  have key : ∀ l : List Nat, l.eraseDups.length ≤ l.length ∧ (l.eraseDups.length = l.length → l.Nodup) := by
    intro l
    induction hn : l.length using Nat.strongRecOn generalizing l with
    | _ n ih =>
      cases l with
      | nil => simp
      | cons a l =>
        rw [List.eraseDups_cons]
        have hfl : (l.filter fun b => !b == a).length ≤ l.length := List.length_filter_le _ _
        simp only [List.length_cons] at hn ⊢
        have h1 := ih (l.filter fun b => !b == a).length (by omega) (l.filter fun b => !b == a) rfl
        refine ⟨by omega, fun he => ?_⟩
        have hf2 : (l.filter fun b => !b == a).length = l.length := by omega
        have hf3 : l.filter (fun b => !b == a) = l := by
          rw [List.filter_eq_self, ← List.length_filter_eq_length_iff]; exact hf2
        rw [hf3] at h1
        refine List.nodup_cons.2 ⟨fun hm => ?_, h1.2 (by rw [hf3] at he; omega)⟩
        rw [List.filter_eq_self] at hf3
        have := hf3 a hm
        simp at this
  exact (key l).2 h
theorem Ok.mk' {ops : Array Oper} (h : drawOk ops m nd = true) : Ok ops m nd := by
  unfold drawOk at h
  simp only [Bool.and_eq_true] at h
  obtain ⟨hle, hall⟩ := h
  have hop : ∀ k o, ops[k]? = some o → opOk ops (bef ops) m nd k o = true := fun k o ho => by
    have := List.all_eq_true.1 hall k (List.mem_range.2 (Array.getElem?_eq_some_iff.1 ho).1)
    simpa [ho] using this
  have hbk : ∀ k o, ops[k]? = some o → k < m → ∀ j, j < m → (match (ops[j]?).bind (·.dst) with
      | some t => (!((tmpsOf o).any (Nat.beq t)) || (Nat.blt j k && ((bef ops).getD k 0).testBit j)) && (Nat.beq j k || match o.dst with | some t' => !Nat.beq t t' | none => true) &&
          (match o.guard with | some (g, _) => (match (ops[g]?).bind (·.dst) with | some tg => !Nat.beq t tg || (Nat.blt j k && ((bef ops).getD k 0).testBit j) | none => true) | none => true)
      | none => true) = true ∧ (nd k).all (fun j => Nat.blt j k && ((bef ops).getD k 0).testBit j) = true ∧ (nd k).eraseDups.length = (nd k).length := fun k o ho hk j hj => by
    have h1 := hop k o ho
    unfold opOk at h1
    have hb : Nat.blt k m = true := Nat.ble_eq_true_of_le hk
    rw [hb] at h1
    simp only [Bool.and_eq_true, cond_true, List.all_eq_true, List.mem_range, beq_iff_eq] at h1
    exact ⟨h1.2.1.1 j hj, by rw [List.all_eq_true]; simpa only [Bool.and_eq_true] using h1.2.1.2, h1.2.2⟩
  have blt_lt : ∀ {a b : Nat}, Nat.blt a b = true → a < b := fun h => Nat.le_of_ble_eq_true h
  refine ⟨Nat.le_of_ble_eq_true hle, ?_, ?_, ?_, ?_, ?_, ?_, ?_, ?_⟩
  · intro k o ho cs b he
    have h1 := hop k o ho
    unfold opOk at h1
    simp [noSel, he] at h1
  · intro k o ho e he hb
    have h1 := hop k o ho
    unfold opOk at h1
    simp only [Bool.and_eq_true, List.all_eq_true] at h1
    have := h1.1.2 e (by simpa using he)
    rw [hb] at this
    exact blt_lt (by simpa using this)
  · intro k o hk ho j o' hj ho' t ht hmem
    have h1 := (hbk k o ho hk j hj).1
    simp only [ho', Option.bind_some, ht, Bool.and_eq_true] at h1
    have h2 := h1.1.1
    have h3 : (tmpsOf o).any (Nat.beq t) = true := by
      rw [List.any_eq_true]
      refine ⟨t, ?_, Nat.beq_refl t⟩
      unfold tmpsOf
      rw [List.mem_filterMap]
      exact ⟨.tmp t, by simpa using hmem, rfl⟩
    rw [h3] at h2
    simp only [Bool.not_true, Bool.false_or, Bool.and_eq_true] at h2
    exact ⟨blt_lt h2.1, bef_anc h2.2⟩
  · intro k o hk ho g b hg tg htg j o' hj ho' ht
    have h1 := (hbk k o ho hk j hj).1
    simp only [ho', Option.bind_some, ht, Bool.and_eq_true, hg] at h1
    have h2 := h1.2
    rw [htg] at h2
    simp only [Nat.beq_refl, Bool.not_true, Bool.false_or, Bool.and_eq_true] at h2
    exact ⟨blt_lt h2.1, bef_anc h2.2⟩
  · intro k o hk ho j o' hj ho' hne t ht ht'
    have h1 := (hbk k o ho hk j hj).1
    simp only [ho', Option.bind_some, ht, Bool.and_eq_true, ht'] at h1
    have h2 := h1.1.2
    rw [beq_ne hne] at h2
    simp [Nat.beq_refl] at h2
  · intro k o hk ho c hc
    have h1 := (hbk k o ho hk k hk).2.1
    rw [List.all_eq_true] at h1
    have := h1 c hc
    simp only [Bool.and_eq_true] at this
    exact ⟨blt_lt this.1, bef_anc this.2⟩
  · intro k o hk ho
    exact eraseDups_nodup (hbk k o ho hk k hk).2.2
  · intro k o hk ho j hj
    have h1 := hop k o ho
    unfold opOk at h1
    have hb : Nat.blt k m = false := by
      cases hb : Nat.blt k m with
      | false => rfl
      | true => have := blt_lt hb; omega
    rw [hb] at h1
    simp only [Bool.and_eq_true, cond_false, List.all_eq_true, List.mem_range] at h1
    exact bef_anc (h1.2 j hj)
theorem all_listed {ops : Array Oper} (ok : Ok ops m nd) {listed : Array Bool} (hs : listed.size = ops.size) (hr : Region.ready .any ops listed = []) : ∀ j, j < ops.size → Ls listed j := by
  intro j
  induction j using Nat.strongRecOn with
  | _ j ih =>
    intro hj
    refine Classical.byContradiction fun hn => ?_
    have h1 := (not_ls (by omega)).1 hn
    have : j ∈ Region.ready .any ops listed := mem_ready.2 ⟨h1, ops[j], Array.getElem?_eq_getElem hj, fun e he hb => by
      have := ok.back j _ (Array.getElem?_eq_getElem hj) e he hb
      exact ih e.on this (by omega)⟩
    rw [hr] at this
    cases this
/-- Behind the first m, one order alone. -/
theorem tail_any (ok : Ok l.toArray m nd) {F : Fence} : ∀ (fuel j : Nat) (listed : Array Bool) (a : Act) (w : World), listed.size = l.length → Shut l.toArray listed → (∀ k, Ls listed k ↔ k < j) → m ≤ j → j ≤ l.length → l.length ≤ j + fuel →
    wpListIn F 0 C.P l.toArray Q (l.drop j) a w → wpAnyIn F 0 C.P .any l.toArray Q fuel listed a w := by
  intro fuel
  induction fuel with
  | zero =>
    intro j listed a w hs hc hl hm hj hf h
    obtain rfl : j = l.length := by omega
    rw [List.drop_length] at h
    refine ⟨?_, h⟩
    refine List.eq_nil_iff_forall_not_mem.2 fun i hi => ?_
    obtain ⟨h1, o, ho, _⟩ := mem_ready.1 hi
    have hlt : i < l.length := by simpa using (Array.getElem?_eq_some_iff.1 ho).1
    exact (not_ls (by omega)).2 h1 ((hl i).2 hlt)
  | succ fuel ih =>
    intro j listed a w hs hc hl hm hj hf h
    refine ⟨fun hr => ?_, fun i hi => ?_⟩
    · have := all_listed ok (by simpa using hs) hr
      have hjl : j = l.length := by
        rcases Nat.lt_or_ge j l.length with h' | h'
        · have := (hl j).1 (this j (by simpa using h')); omega
        · omega
      subst hjl
      rw [List.drop_length] at h
      exact h
    · obtain ⟨h1, o, ho, _⟩ := mem_ready.1 hi
      have hlt : i < l.length := by simpa using (Array.getElem?_eq_some_iff.1 ho).1
      have hij : i = j := by
        rcases Nat.lt_trichotomy i j with h' | h' | h'
        · exact absurd ((hl i).2 h') ((not_ls (by omega)).2 h1)
        · exact h'
        · have := ready_anc hc hi (ok.tail i o (by omega) ho j h')
          have := (hl j).1 this
          omega
      subst hij
      have hd : l.drop i = o :: l.drop (i + 1) := by
        have : l[i]? = some o := by simpa using ho
        rw [List.drop_eq_getElem_cons hlt]
        congr 1
        rw [List.getElem?_eq_getElem hlt] at this
        exact Option.some.inj this
      rw [hd] at h
      unfold wpOpIn
      rw [ho]
      simp only
      unfold wpListIn at h
      have next : ∀ a w, wpListIn F 0 C.P l.toArray Q (l.drop (i + 1)) a w → wpAnyIn F 0 C.P .any l.toArray Q fuel (listed.setIfInBounds i true) a w := fun a w hh =>
        ih (i + 1) _ a w (by simpa using hs) (hc.set hi (by omega)) (fun k => by rw [Ls.set_iff (by omega), hl k]; omega) (by omega) (by omega) (by omega) hh
      split
      · rename_i hw
        rw [if_pos hw] at h
        exact Oper.wpIn_mono next h
      · rename_i hw
        rw [if_neg hw] at h
        exact ⟨h.1, next _ _ h.2⟩
end
section
variable {C : Ctx} {l : List Oper} {m : Nat} {nd : Nat → List Nat} {ex : Nat → Option (Value → List Res → Prop)} {σ : Env} {L0 : List Res} {K : Env → List Nat → Prop}
def Valid (ex : Nat → Option (Value → List Res → Prop)) (u : Got) : Prop := ∀ k V, ex k = some V → V (u k).1 (u k).2
/-- The values of a walk. -/
structure Good (C : Ctx) (l : List Oper) (m : Nat) (ex : Nat → Option (Value → List Res → Prop)) (nd : Nat → List Nat) (L0 : List Res) (σ : Env) (K : Got → Env → List Nat → Prop) (u : Got) (vs : List Value) : Prop where
  len : vs.length = (l.take m).length
  step : ∀ (i : Nat) (o : Oper) (v : Value), (l.take m)[i]? = some o → vs[i]? = some v → Step C l.toArray ex nd u L0 i o (envAt ((l.take m).take i) (vs.take i) σ) (exAt l.toArray ex 0 ((l.take m).take i) (vs.take i) σ []) v
  fin : K u (envAt (l.take m) vs σ) (exAt l.toArray ex 0 (l.take m) vs σ [])
/-- What holds while the first m are under way. -/
structure Mid (C : Ctx) (l : List Oper) (m : Nat) (ex : Nat → Option (Value → List Res → Prop)) (nd : Nat → List Nat) (L0 : List Res) (σ : Env) (K : Got → Env → List Nat → Prop) (listed : Array Bool) (u : Got) (Ex : List Nat) (a : Act) (w : World) : Prop where
  size : a.tmps.size = C.N
  valid : Valid ex u
  nodup : Ex.Nodup
  sub : ∀ c ∈ Ex, c < m ∧ Ls listed c
  base : ∀ t, (∀ (j : Nat) (o : Oper), j < m → l[j]? = some o → Ls listed j → o.dst ≠ some t) → a.tmps.getD t undef = σ t
  vals : ∀ u', Valid ex u' → (∀ c ∈ Ex, u' c = u c) → ∀ vs, Good C l m ex nd L0 σ K u' vs → ∀ (j : Nat) (o : Oper) (v : Value), j < m → l[j]? = some o → vs[j]? = some v → Ls listed j →
    (∀ t, o.dst = some t → a.tmps.getD t undef = v) ∧ (j ∈ Ex ↔ j ∈ exAt l.toArray ex 0 (l.take m) vs σ [])
  heap : Hp C.w0 C.B (hid C a ++ needs u Ex L0) w
theorem take_get {j : Nat} {o : Oper} (hj : j < m) (h : l[j]? = some o) : (l.take m)[j]? = some o := by rw [List.getElem?_take, if_pos hj]; exact h
theorem get_take {j : Nat} {o : Oper} (h : (l.take m)[j]? = some o) : j < m ∧ l[j]? = some o := by
  rw [List.getElem?_take] at h
  split at h
  · rename_i hj; exact ⟨hj, h⟩
  · cases h
theorem take_take_get {j i : Nat} {o : Oper} (h : ((l.take m).take i)[j]? = some o) : j < i ∧ j < m ∧ l[j]? = some o := by
  rw [List.getElem?_take] at h
  split at h
  · rename_i hj; exact ⟨hj, get_take h⟩
  · cases h
/-- An operand reads the same in the walk and in the run. -/
theorem Mid.read {Kk : Got → Env → List Nat → Prop} {listed : Array Bool} {u : Got} {Ex : List Nat} {a : Act} {w : World} (ok : Ok l.toArray m nd) (h : Mid C l m ex nd L0 σ Kk listed u Ex a w) (hc : Shut l.toArray listed) {i : Nat} (hi : i ∈ Region.ready .any l.toArray listed) (him : i < m) {o : Oper} (ho : l[i]? = some o)
    {u' : Got} (hu' : Valid ex u') (hag : ∀ c ∈ Ex, u' c = u c) {vs : List Value} (hg : Good C l m ex nd L0 σ Kk u' vs) {t : Nat} (ht : ∀ (j : Nat) (o' : Oper), j < m → l[j]? = some o' → o'.dst = some t → j < i ∧ Anc l.toArray i j) :
    a.tmps.getD t undef = envAt ((l.take m).take i) (vs.take i) σ t := by
  by_cases hex : ∃ (j : Nat) (o' : Oper), j < m ∧ l[j]? = some o' ∧ o'.dst = some t
  · obtain ⟨j, o', hjm, hj, hd⟩ := hex
    obtain ⟨hlt, hanc⟩ := ht j o' hjm hj hd
    have hls := ready_anc hc hi hanc
    have hvl : j < vs.length := by
      rw [hg.len, List.length_take]
      have : j < l.length := (List.getElem?_eq_some_iff.1 hj).1
      omega
    have hv : vs[j]? = some vs[j] := List.getElem?_eq_getElem hvl
    rw [((h.vals u' hu' hag vs hg j o' _ hjm hj hv hls).1 t hd)]
    refine (envAt_one _ _ _ t j o' vs[j] ?_ ?_ hd ?_).symm
    · rw [List.getElem?_take, if_pos hlt]; exact take_get hjm hj
    · rw [List.getElem?_take, if_pos hlt]; exact hv
    · intro j' o'' hj' hne hd'
      obtain ⟨_, h2, h3⟩ := take_take_get hj'
      exact ok.uniq j' o'' h2 (by simpa using h3) j o' hjm (by simpa using hj) (fun e => hne e.symm) t hd hd'
  · rw [h.base t (fun j o' hj ho' _ hd => hex ⟨j, o', hj, ho', hd⟩)]
    refine (envAt_none _ _ _ t fun j o' hj hd => ?_).symm
    obtain ⟨_, h2, h3⟩ := take_take_get hj
    exact hex ⟨j, o', h2, h3, hd⟩
theorem wants_congr {all : Array Oper} {o : Oper} {σ σ' : Env} (h : ∀ g b, o.guard = some (g, b) → ∀ tg, (all[g]?).bind (·.dst) = some tg → σ tg = σ' tg) : wants all σ o = wants all σ' o := by
  unfold wants
  cases hg : o.guard with
  | none => rfl
  | some gb =>
    obtain ⟨g, b⟩ := gb
    simp only
    cases hd : (all[g]?).bind (·.dst) with
    | none => rfl
    | some tg => simp only [Option.map_some, h g b hg tg hd]
theorem exAt_at {vs : List Value} {i : Nat} {o : Oper} {v : Value} (ho : (l.take m)[i]? = some o) (hv : vs[i]? = some v) : i ∈ exAt l.toArray ex 0 (l.take m) vs σ [] ↔ wants l.toArray (envAt ((l.take m).take i) (vs.take i) σ) o = true ∧ (ex i).isSome = true := by
  rw [exAt_mem]
  constructor
  · rintro (h | ⟨i', o', v', h1, h2, h3, h4, h5⟩)
    · cases h
    · obtain rfl : i = i' := by omega
      rw [ho] at h1; cases h1
      exact ⟨h4, h5⟩
  · rintro ⟨h1, h2⟩
    exact .inr ⟨i, o, v, ho, hv, by omega, h1, h2⟩
theorem put_read {a : Act} {d : Option Nat} {v : Value} {N : Nat} (hs : a.tmps.size = N) (hd : okDst N d = true) (t : Nat) : (a.put d v).tmps.getD t undef = if d = some t then v else a.tmps.getD t undef := by
  have h := (Agree.refl a).put (d := d) v (fun u hu => by rw [hs]; exact okDst_lt hd u hu) t
  rw [h]
  by_cases he : d = some t
  · rw [if_pos he, updO_same he]
  · rw [if_neg he, updO_other he]
theorem Mid.put {Kk : Got → Env → List Nat → Prop} {listed : Array Bool} {u u1 : Got} {Ex Ex1 : List Nat} {a : Act} {w w' : World} {i : Nat} {o : Oper} {v : Value} (ok : Ok l.toArray m nd) (h : Mid C l m ex nd L0 σ Kk listed u Ex a w) (hlt : i < listed.size) (hi : ¬ Ls listed i) (him : i < m) (ho : l[i]? = some o) (hd : okDst C.N o.dst = true)
    (hv1 : Valid ex u1) (hnd : Ex1.Nodup) (hcase : (Ex1 = Ex ∧ u1 = u) ∨ (Ex1 = i :: Ex ∧ ∀ c ∈ Ex, u1 c = u c))
    (hvi : ∀ u', Valid ex u' → (∀ c ∈ Ex1, u' c = u1 c) → ∀ vs, Good C l m ex nd L0 σ Kk u' vs → ∀ v', vs[i]? = some v' → v' = v ∧ (i ∈ Ex1 ↔ i ∈ exAt l.toArray ex 0 (l.take m) vs σ []))
    (hh : Hp C.w0 C.B (hid C a ++ needs u1 Ex1 L0) w') : Mid C l m ex nd L0 σ Kk (listed.setIfInBounds i true) u1 Ex1 (a.put o.dst v) w' := by
  refine ⟨by rw [put_size]; exact h.size, hv1, hnd, ?_, ?_, ?_, by rw [hid_put]; exact hh⟩
  · intro c hc
    rw [Ls.set_iff hlt]
    rcases hcase with ⟨rfl, _⟩ | ⟨rfl, _⟩
    · exact ⟨(h.sub c hc).1, .inr (h.sub c hc).2⟩
    · rcases List.mem_cons.1 hc with rfl | hc
      · exact ⟨him, .inl rfl⟩
      · exact ⟨(h.sub c hc).1, .inr (h.sub c hc).2⟩
  · intro t ht
    rw [put_read h.size hd, if_neg (ht i o him ho ((Ls.set_iff hlt).2 (.inl rfl)))]
    exact h.base t (fun j o' hj ho' hl => ht j o' hj ho' ((Ls.set_iff hlt).2 (.inr hl)))
  · intro u' hu' hag vs hg j o' v' hj ho' hv' hl
    have hag' : ∀ c ∈ Ex, u' c = u c := fun c hc => by
      rcases hcase with ⟨rfl, rfl⟩ | ⟨rfl, h2⟩
      · exact hag c hc
      · rw [hag c (by simp [hc]), h2 c hc]
    by_cases hij : j = i
    · subst hij
      rw [ho] at ho'; cases ho'
      obtain ⟨h1, h2⟩ := hvi u' hu' hag vs hg v' hv'
      subst h1
      exact ⟨fun t ht => by rw [put_read h.size hd, if_pos ht], h2⟩
    · rw [Ls.set_iff hlt] at hl
      have hl := hl.resolve_left hij
      obtain ⟨h1, h2⟩ := h.vals u' hu' hag' vs hg j o' v' hj ho' hv' hl
      refine ⟨fun t ht => ?_, ?_⟩
      · rw [put_read h.size hd, if_neg (ok.uniq i o him (by simpa using ho) j o' hj (by simpa using ho') hij t ht)]
        exact h1 t ht
      · rw [← h2]
        rcases hcase with ⟨rfl, _⟩ | ⟨rfl, _⟩
        · exact Iff.rfl
        · simp [hij]
theorem draw_end {Q : Exit → Act → World → Prop} {Kk : Got → Env → List Nat → Prop} (ok : Ok l.toArray m nd) (hgood : ∀ u, Valid ex u → ∃ vs, Good C l m ex nd L0 σ Kk u vs)
    (hK : ∀ u σ' E a w, Kk u σ' E → Agree a σ' → St C (needs u E L0) a w → wpListIn (FR C.r) 0 C.P l.toArray Q (l.drop m) a w)
    (listed : Array Bool) (u : Got) (Ex : List Nat) (a : Act) (w : World) (fuel : Nat) (hs : listed.size = l.length) (hc : Shut l.toArray listed) (hm : ∀ k, Ls listed k → k < m) (hall : ∀ j, j < m → Ls listed j) (hf : l.length ≤ m + fuel)
    (h : Mid C l m ex nd L0 σ Kk listed u Ex a w) : wpAnyIn (FR C.r) 0 C.P .any l.toArray Q fuel listed a w := by
  have hml : m ≤ l.length := by simpa using ok.le
  obtain ⟨vs, hg⟩ := hgood u h.valid
  have hvl : vs.length = m := by rw [hg.len, List.length_take]; omega
  refine tail_any ok fuel m listed a w hs hc (fun k => ⟨hm k, hall k⟩) (Nat.le_refl _) hml hf ?_
  refine hK u _ _ a w hg.fin ?_ ⟨h.size, ?_⟩
  · intro t
    by_cases hex : ∃ (j : Nat) (o' : Oper), j < m ∧ l[j]? = some o' ∧ o'.dst = some t
    · obtain ⟨j, o', hjm, hj, hd⟩ := hex
      have hv : vs[j]? = some (vs[j]'(by omega)) := List.getElem?_eq_getElem (by omega)
      rw [(h.vals u h.valid (fun _ _ => rfl) vs hg j o' _ hjm hj hv (hall j hjm)).1 t hd]
      refine (envAt_one _ _ _ t j o' _ (take_get hjm hj) hv hd ?_).symm
      intro j' o'' hj' hne hd'
      obtain ⟨h2, h3⟩ := get_take hj'
      exact ok.uniq j' o'' h2 (by simpa using h3) j o' hjm (by simpa using hj) (fun e => hne e.symm) t hd hd'
    · rw [h.base t (fun j o' hj ho' _ hd => hex ⟨j, o', hj, ho', hd⟩)]
      refine (envAt_none _ _ _ t fun j o' hj hd => ?_).symm
      obtain ⟨h2, h3⟩ := get_take hj
      exact hex ⟨j, o', h2, h3, hd⟩
  · refine h.heap.perm (List.Perm.append_left _ ?_)
    unfold needs
    refine List.Perm.append_right _ (List.Perm.flatMap_right _ ?_)
    refine (List.perm_ext_iff_of_nodup h.nodup (exAt_nodup _ _ _ _ _ .nil (by simp))).2 fun c => ?_
    have key : ∀ c, c < m → (c ∈ Ex ↔ c ∈ exAt l.toArray ex 0 (l.take m) vs σ []) := fun c hc =>
      (h.vals u h.valid (fun _ _ => rfl) vs hg c l[c] (vs[c]'(by omega)) hc (List.getElem?_eq_getElem (by omega)) (List.getElem?_eq_getElem (by omega)) (hall c hc)).2
    constructor
    · intro hcm; exact (key c (h.sub c hcm).1).1 hcm
    · intro hcm
      refine (key c ?_).2 hcm
      rcases (exAt_mem _ _ _ _ _ _).1 hcm with h0 | ⟨i, o, v, h1, _, h3, _⟩
      · cases h0
      · have := (get_take h1).1; omega
theorem draw_any {Q : Exit → Act → World → Prop} {Kk : Got → Env → List Nat → Prop} (ok : Ok l.toArray m nd) (hgood : ∀ u, Valid ex u → ∃ vs, Good C l m ex nd L0 σ Kk u vs)
    (hK : ∀ u σ' E a w, Kk u σ' E → Agree a σ' → St C (needs u E L0) a w → wpListIn (FR C.r) 0 C.P l.toArray Q (l.drop m) a w) :
    ∀ (fuel : Nat) (listed : Array Bool) (u : Got) (Ex : List Nat) (a : Act) (w : World), listed.size = l.length → Shut l.toArray listed → (∀ k, Ls listed k → k < m) → listed.toList.countP (fun b => !b) ≤ fuel →
      Mid C l m ex nd L0 σ Kk listed u Ex a w → wpAnyIn (FR C.r) 0 C.P .any l.toArray Q fuel listed a w := by
  have hml : m ≤ l.length := by simpa using ok.le
  have hcount : ∀ (listed : Array Bool), listed.size = l.length → (∀ k, Ls listed k → k < m) → l.length - m ≤ listed.toList.countP (fun b => !b) := fun listed hs hm => by
    have h1 : (listed.toList.drop m).countP (fun b => !b) ≤ listed.toList.countP (fun b => !b) := (List.drop_sublist m _).countP_le
    have h2 : (listed.toList.drop m).countP (fun b => !b) = (listed.toList.drop m).length := by
      rw [List.countP_eq_length]
      intro b hb
      obtain ⟨j, hj⟩ := List.getElem?_of_mem hb
      rw [List.getElem?_drop] at hj
      cases b with
      | false => rfl
      | true =>
        have : Ls listed (m + j) := by
          unfold Ls
          rw [Array.getD_eq_getD_getElem?, ← Array.getElem?_toList, hj]; rfl
        have := hm _ this
        omega
    rw [List.length_drop, Array.length_toList, hs] at h2
    omega
  intro fuel
  induction fuel with
  | zero =>
    intro listed u Ex a w hs hc hm hcnt h
    have hml' := hcount listed hs hm
    refine draw_end ok hgood hK listed u Ex a w 0 hs hc hm (fun j hj => ?_) (by omega) h
    have h0 : listed.toList.countP (fun b => !b) = 0 := by omega
    rw [List.countP_eq_zero] at h0
    have := h0 (listed[j]'(by omega)) (by simp)
    unfold Ls
    rw [Array.getD_eq_getD_getElem?, Array.getElem?_eq_getElem (by omega)]
    simpa using this
  | succ fuel ih =>
    intro listed u Ex a w hs hc hm hcnt h
    have hml' := hcount listed hs hm
    by_cases hall : ∀ j, j < m → Ls listed j
    · exact draw_end ok hgood hK listed u Ex a w (fuel + 1) hs hc hm hall (by omega) h
    refine ⟨fun hr => absurd (fun j hj => all_listed ok (by simpa using hs) hr j (by simp; omega)) hall, fun i hi => ?_⟩
    obtain ⟨h1, o, ho', _⟩ := mem_ready.1 hi
    have ho : l[i]? = some o := by simpa using ho'
    have hil : i < l.length := (List.getElem?_eq_some_iff.1 ho).1
    have hni : ¬ Ls listed i := (not_ls (by omega)).2 h1
    have him : i < m := by
      rcases Nat.lt_or_ge i m with h' | h'
      · exact h'
      · exact absurd (fun j hj => ready_anc hc hi (ok.tail i o h' ho' j (by omega))) hall
    have hc' := hc.set hi (by omega)
    have hm' : ∀ k, Ls (listed.setIfInBounds i true) k → k < m := fun k hk => by
      rcases (Ls.set_iff (by omega)).1 hk with rfl | hk
      · exact him
      · exact hm k hk
    have hcnt' : (listed.setIfInBounds i true).toList.countP (fun b => !b) ≤ fuel := by
      have hb : listed.toList[i]'(by simp; omega) = false := by
        have := h1
        rw [Array.getD_eq_getD_getElem?, Array.getElem?_eq_getElem (by omega)] at this
        simpa using this
      have hpos : 0 < listed.toList.countP (fun b => !b) := List.countP_pos_iff.2 ⟨false, by rw [← hb]; exact List.getElem_mem _, rfl⟩
      have e := List.countP_set (p := fun b : Bool => !b) (l := listed.toList) (i := i) (a := true) (by simp; omega)
      rw [hb] at e
      rw [Array.toList_setIfInBounds, e]
      show _ - 1 + 0 ≤ fuel
      omega
    have goOn := fun u1 Ex1 a1 w1 => ih (listed.setIfInBounds i true) u1 Ex1 a1 w1 (by simpa using hs) hc' hm' hcnt'
    -- what the walk says here, for each way that agrees with what has been made
    have hread : ∀ u', Valid ex u' → (∀ c ∈ Ex, u' c = u c) → ∀ vs, Good C l m ex nd L0 σ Kk u' vs → (∀ x ∈ o.op.operands, ev (fun t => a.tmps.getD t undef) x = ev (envAt ((l.take m).take i) (vs.take i) σ) x) ∧ wants l.toArray (fun t => a.tmps.getD t undef) o = wants l.toArray (envAt ((l.take m).take i) (vs.take i) σ) o := fun u' hu' hag vs hg => by
      refine ⟨fun x hx => ?_, wants_congr fun g b hgd tg htg => ?_⟩
      · cases x with
        | tmp t => exact h.read ok hc hi him ho hu' hag hg (fun j o' hj hjo hd => ok.look i o him ho' j o' hj (by simpa using hjo) t hd hx)
        | _ => rfl
      · exact h.read ok hc hi him ho hu' hag hg (fun j o' hj hjo hd => ok.gard i o him ho' g b hgd tg htg j o' hj (by simpa using hjo) hd)
    have hexec : ∀ u', Valid ex u' → (∀ c ∈ Ex, u' c = u c) → ∀ vs, Good C l m ex nd L0 σ Kk u' vs → execOp (ev (fun t => a.tmps.getD t undef)) o = execOp (ev (envAt ((l.take m).take i) (vs.take i) σ)) o := fun u' hu' hag vs hg =>
      execOp_congr o (ok.sel i o ho') (hread u' hu' hag vs hg).1
    have hat : ∀ vs : List Value, vs.length = (l.take m).length → ∃ v, vs[i]? = some v := fun vs hl => ⟨vs[i]'(by rw [hl, List.length_take]; omega), List.getElem?_eq_getElem _⟩
    -- the heap, with what operation i reads in front
    have hneed : ∀ u' vs, Valid ex u' → (∀ c ∈ Ex, u' c = u c) → Good C l m ex nd L0 σ Kk u' vs → (∀ c ∈ nd i, c ∈ exAt l.toArray ex 0 ((l.take m).take i) (vs.take i) σ []) →
        ∃ R : List Res, Hp C.w0 C.B ((hid C a ++ R) ++ needs u' (nd i) L0) w ∧ (needs u Ex L0).Perm (R ++ needs u' (nd i) L0) := fun u' vs hu' hag hg hn => by
      have hsub : ∀ c ∈ nd i, c ∈ Ex := fun c hcn => by
        have hcl := ready_anc hc hi (ok.need i o him ho' c hcn).2
        have hci := (ok.need i o him ho' c hcn).1
        have hcm : c < m := by omega
        obtain ⟨v, hv⟩ : ∃ v, vs[c]? = some v := ⟨vs[c]'(by rw [hg.len, List.length_take]; omega), List.getElem?_eq_getElem _⟩
        refine ((h.vals u' hu' hag vs hg c l[c] v hcm (List.getElem?_eq_getElem (by omega)) hv hcl).2).2 ?_
        rcases (exAt_mem _ _ _ _ _ _).1 (hn c hcn) with h0 | ⟨j, o', v', h2, h3, h4, h5, h6⟩
        · cases h0
        · obtain ⟨hji, hjm, hjl⟩ := take_take_get h2
          refine (exAt_mem _ _ _ _ _ _).2 (.inr ⟨j, o', v', take_get hjm hjl, ?_, h4, ?_, h6⟩)
          · rw [List.getElem?_take, if_pos hji] at h3; exact h3
          · have e1 : ((l.take m).take i).take j = (l.take m).take j := by rw [List.take_take, Nat.min_eq_left (by omega)]
            have e2 : (vs.take i).take j = vs.take j := by rw [List.take_take, Nat.min_eq_left (by omega)]
            rw [e1, e2] at h5; exact h5
      obtain ⟨R, hp⟩ := perm_needs hsub (ok.nodu i o him ho') h.nodup
      have hfl : ∀ E : List Nat, (∀ c ∈ E, c ∈ Ex) → E.flatMap (fun c => (u c).2) = E.flatMap (fun c => (u' c).2) := fun E hE => by
        induction E with
        | nil => rfl
        | cons c E ihE =>
          rw [List.flatMap_cons, List.flatMap_cons, hag c (hE c (by simp)), ihE (fun d hd => hE d (by simp [hd]))]
      have hpp : (needs u Ex L0).Perm ((R.flatMap fun c => (u c).2) ++ needs u' (nd i) L0) := by
        unfold needs
        rw [← hfl (nd i) hsub, ← List.append_assoc]
        refine List.Perm.append_right _ ((List.Perm.flatMap_right _ hp).trans ?_)
        rw [List.flatMap_append]
        exact List.perm_append_comm
      refine ⟨R.flatMap fun c => (u c).2, h.heap.perm ?_, hpp⟩
      rw [List.append_assoc]
      exact List.Perm.append_left _ hpp
    obtain ⟨vs, hg⟩ := hgood u h.valid
    obtain ⟨v, hv⟩ := hat vs hg.len
    have hstep := hg.step i o v (take_get him ho) hv
    obtain ⟨hd, hstep⟩ := hstep
    unfold wpOpIn
    rw [ho']
    simp only
    rcases hstep with ⟨hw, hn, hcase⟩ | ⟨hw, rfl⟩
    · rw [if_pos (wanted_eq (Agree.refl a) (by rw [(hread u h.valid (fun _ _ => rfl) vs hg).2]; exact hw))]
      obtain ⟨R, hhp, hpp⟩ := hneed u vs h.valid (fun _ _ => rfl) hg hn
      rcases hcase with ⟨V, hx, rfl, hsp⟩ | ⟨hx, hsd⟩
      · have hgo := hsp _ w hhp
        rw [← hexec u h.valid (fun _ _ => rfl) vs hg] at hgo
        refine hgo.wpIn (Agree.refl a) ?_
        rintro v' w' ⟨L', hh', T, rfl, hV⟩
        have hniE : i ∉ Ex := fun hiE => hni (h.sub i hiE).2
        have hval : Valid ex (fun c => if c = i then (v', T) else u c) := fun k V' hk => by
          by_cases hki : k = i
          · subst hki; rw [hx] at hk; cases hk; simpa using hV
          · simp only [if_neg hki]; exact h.valid k V' hk
        have hsame : ∀ c ∈ Ex, (if c = i then (v', T) else u c) = u c := fun c hcE => if_neg (fun e : c = i => hniE (e ▸ hcE))
        refine goOn (fun c => if c = i then (v', T) else u c) (i :: Ex) _ _ ?_
        refine h.put ok (by omega) hni him ho hd hval (List.nodup_cons.2 ⟨hniE, h.nodup⟩) (.inr ⟨rfl, hsame⟩) ?_ ?_
        · intro u' hu' hag vs' hg' v2 hv2
          have hag' : ∀ c ∈ Ex, u' c = u c := fun c hcE => by rw [hag c (by simp [hcE]), hsame c hcE]
          obtain ⟨_, hs2⟩ := hg'.step i o v2 (take_get him ho) hv2
          have hw2 : wants l.toArray (envAt ((l.take m).take i) (vs'.take i) σ) o = true := by
            rw [← (hread u' hu' hag' vs' hg').2, (hread u h.valid (fun _ _ => rfl) vs hg).2]; exact hw
          refine ⟨?_, by simp [exAt_at (take_get him ho) hv2, hw2, hx]⟩
          rcases hs2 with ⟨_, _, ⟨V2, hx2, rfl, _⟩ | ⟨hx2, _⟩⟩ | ⟨hw3, _⟩
          · have := hag i (by simp)
            rw [this]; simp
          · rw [hx] at hx2; cases hx2
          · rw [hw2] at hw3; cases hw3
        · refine hh'.perm ?_
          rw [List.append_assoc]
          refine List.Perm.append_left _ ?_
          have e1 : needs (fun c => if c = i then (v', T) else u c) (i :: Ex) L0 = T ++ needs u Ex L0 := by
            unfold needs
            rw [List.flatMap_cons, List.append_assoc]
            congr 1
            · simp
            · congr 1
              have : ∀ E : List Nat, (∀ c ∈ E, c ∈ Ex) → E.flatMap (fun c => (if c = i then (v', T) else u c).2) = E.flatMap (fun c => (u c).2) := fun E hE => by
                induction E with
                | nil => rfl
                | cons c E ihE => rw [List.flatMap_cons, List.flatMap_cons, hsame c (hE c (by simp)), ihE (fun d hd => hE d (by simp [hd]))]
              exact this Ex (fun _ h => h)
          rw [e1]
          refine List.Perm.trans ?_ (List.Perm.append_left T hpp.symm)
          rw [← List.append_assoc, ← List.append_assoc]
          exact List.Perm.append_right _ List.perm_append_comm
      · have hrun := hsd _ w hhp
        rw [← hexec u h.valid (fun _ _ => rfl) vs hg] at hrun
        have hgo : Goes C.P ((execOp (ev (fun t => a.tmps.getD t undef)) o).run C.P w) (fun v' w' => v' = v ∧ w' = w) := .inl ⟨v, w, hrun, rfl, rfl⟩
        refine hgo.wpIn (Agree.refl a) ?_
        rintro v' w' ⟨rfl, rfl⟩
        refine goOn u Ex _ _ (h.put ok (by omega) hni him ho hd h.valid h.nodup (.inl ⟨rfl, rfl⟩) ?_ h.heap)
        intro u' hu' hag vs' hg' v2 hv2
        obtain ⟨_, hs2⟩ := hg'.step i o v2 (take_get him ho) hv2
        have hw2 : wants l.toArray (envAt ((l.take m).take i) (vs'.take i) σ) o = true := by
          rw [← (hread u' hu' hag vs' hg').2, (hread u h.valid (fun _ _ => rfl) vs hg).2]; exact hw
        have hniE : i ∉ Ex := fun hiE => hni (h.sub i hiE).2
        refine ⟨?_, by simp [exAt_at (take_get him ho) hv2, hx, hniE]⟩
        rcases hs2 with ⟨_, hn2, ⟨V2, hx2, _, _⟩ | ⟨_, hsd2⟩⟩ | ⟨hw3, _⟩
        · rw [hx] at hx2; cases hx2
        · obtain ⟨R2, hhp2, _⟩ := hneed u' vs' hu' hag hg' hn2
          have hrun2 := hsd2 _ w' hhp2
          rw [← hexec u' hu' hag vs' hg', hrun] at hrun2
          injection hrun2 with h5
          injection h5 with h5
          exact h5.symm
        · rw [hw2] at hw3; cases hw3
    · rw [if_neg (by rw [wanted_ne (Agree.refl a) (by rw [(hread u h.valid (fun _ _ => rfl) vs hg).2]; exact hw)]; simp)]
      refine ⟨fun _ _ => trivial, goOn u Ex _ _ (h.put ok (by omega) hni him ho hd h.valid h.nodup (.inl ⟨rfl, rfl⟩) ?_ h.heap)⟩
      intro u' hu' hag vs' hg' v2 hv2
      obtain ⟨_, hs2⟩ := hg'.step i o v2 (take_get him ho) hv2
      have hw2 : wants l.toArray (envAt ((l.take m).take i) (vs'.take i) σ) o = false := by
        rw [← (hread u' hu' hag vs' hg').2, (hread u h.valid (fun _ _ => rfl) vs hg).2]; exact hw
      have hniE : i ∉ Ex := fun hiE => hni (h.sub i hiE).2
      refine ⟨?_, by simp [exAt_at (take_get him ho) hv2, hw2, hniE]⟩
      rcases hs2 with ⟨hw3, _⟩ | ⟨_, h5⟩
      · rw [hw2] at hw3; cases hw3
      · exact h5
end
/-- **A REGION WHOSE ORDER IS DRAWN**, by one walk of its first m operations in the text's order, and of the others behind them. -/
theorem Cd.draw {C : Ctx} {Q : Exit → Env → List Res → Prop} {id : Nat} {l : List Oper} {σ : Env} {L0 : List Res} (hm : C.P.follows .mixedOrders = true) (m : Nat) (ex : Nat → Option (Value → List Res → Prop)) (nd : Nat → List Nat) (hok : drawOk l.toArray m nd = true)
    (hin : ∀ k V, ex k = some V → ∃ v R, V v R)
    (h : ∀ u : Got, Valid ex u → Wk C l.toArray ex nd u L0 0 (l.take m) σ [] (fun σ' E => Ol C l.toArray (l.drop m) (fun σ L => Q .normal σ L) σ' (needs u E L0))) :
    Cd C (.region id l.toArray true) Q σ L0 := by
  intro a w ha hs
  refine wpIn_region_any hm ?_
  have ok : Ok l.toArray m nd := Ok.mk' hok
  have hgood : ∀ u, Valid ex u → ∃ vs, Good C l m ex nd L0 σ (fun u σ' E => Ol C l.toArray (l.drop m) (fun σ L => Q .normal σ L) σ' (needs u E L0)) u vs := fun u hu => by
    obtain ⟨vs, h1, h2, h3⟩ := (h u hu).vals
    exact ⟨vs, h1, fun i o v hi hv => by simpa using h2 i o v hi hv, h3⟩
  have hu0 : ∃ u : Got, Valid ex u := by
    refine ⟨fun k => match hx : ex k with
      | some V => (Classical.choose (hin k V hx), Classical.choose (Classical.choose_spec (hin k V hx)))
      | none => (undef, []), fun k V hk => ?_⟩
    have := Classical.choose_spec (Classical.choose_spec (hin k V hk))
    simp only
    split
    · rename_i V' hx
      rw [hk] at hx
      cases hx
      exact this
    · rename_i hx; rw [hk] at hx; cases hx
  obtain ⟨u, hu⟩ := hu0
  refine draw_any (nd := nd) (ex := ex) (σ := σ) (L0 := L0) ok hgood (fun u σ' E a w hk ha hs => hk a w _ ha hs fun a' w' σ'' L' h1 h2 h3 => ⟨σ'', L', h1, h2, h3⟩) l.toArray.size (Array.replicate l.toArray.size false) u [] a _ (by simp) ?_ ?_ ?_ ⟨hs.size, hu, .nil, by simp, fun t _ => ha t, ?_, ?_⟩
  · intro k hk
    exact (ls_rep hk).elim
  · intro k hk
    exact (ls_rep hk).elim
  · simp only [Array.toList_replicate]
    exact Nat.le_trans List.countP_le_length (by simp)
  · intro u' _ _ vs _ j o v _ _ _ hl
    exact (ls_rep hl).elim
  · exact hs.heap.step (Stp.drew w)
/-! ### The walk's steps -/
section
variable {C : Ctx} {all : Array Oper} {ex : Nat → Option (Value → List Res → Prop)} {nd : Nat → List Nat} {u : Got} {L0 : List Res} {k : Nat} {rest : List Oper} {σ : Env} {E : List Nat} {K : Env → List Nat → Prop} {op : Op} {d : Option Nat} {ty : TypeId} {pos : String} {af : Array Edge} {gd : Option (Nat × Bool)} {v : Value}
theorem Wk.nil (h : K σ E) : Wk C all ex nd u L0 k [] σ E K := h
theorem needs_nil {l : List Nat} (h : l = []) : needs u l L0 = L0 := by subst h; rfl
theorem Wk.go0 (hw : wants all σ ⟨d, op, ty, pos, af, gd⟩ = true) (h : Sd C.P C.w0 C.B ⟨d, op, ty, pos, af, gd⟩ σ L0 v) (hk : Wk C all ex nd u L0 (k + 1) rest (updO σ d v) E K)
    (hd : okDst C.N d = true) (hx : ex k = none) (hn : nd k = []) : Wk C all ex nd u L0 k (⟨d, op, ty, pos, af, gd⟩ :: rest) σ E K := by
  unfold Wk
  rw [hw]
  simp only [cond_true, hx, needs_nil hn]
  exact ⟨by rw [hn]; simp, hd, v, h, hk⟩
theorem Wk.goN {l : List Nat} (hw : wants all σ ⟨d, op, ty, pos, af, gd⟩ = true) (h : Sd C.P C.w0 C.B ⟨d, op, ty, pos, af, gd⟩ σ (needs u l L0) v) (hk : Wk C all ex nd u L0 (k + 1) rest (updO σ d v) E K)
    (hd : okDst C.N d = true) (hx : ex k = none) (hn : nd k = l) (hE : ∀ c ∈ l, c ∈ E) : Wk C all ex nd u L0 k (⟨d, op, ty, pos, af, gd⟩ :: rest) σ E K := by
  unfold Wk
  rw [hw]
  simp only [cond_true, hx, hn]
  exact ⟨hE, hd, v, h, hk⟩
theorem Wk.goX {l : List Nat} {V : Value → List Res → Prop} (hw : wants all σ ⟨d, op, ty, pos, af, gd⟩ = true) (hu : Valid ex u) (hx : ex k = some V) (hn : nd k = l) (hE : ∀ c ∈ l, c ∈ E)
    (h : Sp C.P C.w0 C.B ⟨d, op, ty, pos, af, gd⟩ σ (needs u l L0) (Adds V (needs u l L0))) (hk : ∀ v T, u k = (v, T) → V v T → Wk C all ex nd u L0 (k + 1) rest (updO σ d v) (k :: E) K)
    (hd : okDst C.N d = true) : Wk C all ex nd u L0 k (⟨d, op, ty, pos, af, gd⟩ :: rest) σ E K := by
  unfold Wk
  rw [hw]
  simp only [cond_true, hx, hn]
  exact ⟨hE, hd, h, hk _ _ rfl (hu k V hx)⟩
/-- A step that turns nothing, and reads what was there. -/
theorem Wk.p (h : Sd C.P C.w0 C.B ⟨d, op, ty, pos, af, none⟩ σ L0 v) (hk : Wk C all ex nd u L0 (k + 1) rest (updO σ d v) E K) (hd : okDst C.N d = true := by rfl) (hx : ex k = none := by rfl) (hn : nd k = [] := by rfl) :
    Wk C all ex nd u L0 k (⟨d, op, ty, pos, af, none⟩ :: rest) σ E K := Wk.go0 rfl h hk hd hx hn
/-- One that reads what has been made by some, too. -/
theorem Wk.pn {l : List Nat} (hn : nd k = l) (hE : ∀ c ∈ l, c ∈ E) (h : Sd C.P C.w0 C.B ⟨d, op, ty, pos, af, none⟩ σ (needs u l L0) v) (hk : Wk C all ex nd u L0 (k + 1) rest (updO σ d v) E K) (hd : okDst C.N d = true := by rfl) (hx : ex k = none := by rfl) :
    Wk C all ex nd u L0 k (⟨d, op, ty, pos, af, none⟩ :: rest) σ E K := Wk.goN rfl h hk hd hx hn hE
/-- A call whose value is known, and of which nothing is left. -/
theorem Wk.c (hu : Valid ex u) (hx : ex k = some (fun v' R => v' = v ∧ R = [])) (h : Sp C.P C.w0 C.B ⟨d, op, ty, pos, af, none⟩ σ L0 (Adds (fun v' R => v' = v ∧ R = []) L0)) (hk : u k = (v, []) → Wk C all ex nd u L0 (k + 1) rest (updO σ d v) (k :: E) K)
    (hd : okDst C.N d = true := by rfl) (hn : nd k = [] := by rfl) : Wk C all ex nd u L0 k (⟨d, op, ty, pos, af, none⟩ :: rest) σ E K :=
  Wk.goX rfl hu hx hn (by simp) h (fun _ _ e ⟨h1, h2⟩ => by subst h1; subst h2; exact hk e) hd
/-- One that makes something new. -/
theorem Wk.x {V : Value → List Res → Prop} (hu : Valid ex u) (h : Sp C.P C.w0 C.B ⟨d, op, ty, pos, af, none⟩ σ L0 (Adds V L0)) (hk : ∀ v T, u k = (v, T) → V v T → Wk C all ex nd u L0 (k + 1) rest (updO σ d v) (k :: E) K)
    (hx : ex k = some V := by rfl) (hd : okDst C.N d = true := by rfl) (hn : nd k = [] := by rfl) : Wk C all ex nd u L0 k (⟨d, op, ty, pos, af, none⟩ :: rest) σ E K :=
  Wk.goX rfl hu hx hn (by simp) h hk hd
theorem Wk.xn {l : List Nat} {V : Value → List Res → Prop} (hu : Valid ex u) (hn : nd k = l) (hE : ∀ c ∈ l, c ∈ E) (h : Sp C.P C.w0 C.B ⟨d, op, ty, pos, af, none⟩ σ (needs u l L0) (Adds V (needs u l L0))) (hk : ∀ v T, u k = (v, T) → V v T → Wk C all ex nd u L0 (k + 1) rest (updO σ d v) (k :: E) K)
    (hx : ex k = some V := by rfl) (hd : okDst C.N d = true := by rfl) : Wk C all ex nd u L0 k (⟨d, op, ty, pos, af, none⟩ :: rest) σ E K :=
  Wk.goX rfl hu hx hn hE h hk hd
section
variable {j t : Nat} {b b' : Bool}
theorem wants_is (he : b' = b) (hj : (all[j]?).bind (·.dst) = some t) (hb : σ t = .bool b') : wants all σ ⟨d, op, ty, pos, af, some (j, b)⟩ = true := by simp [wants, hj, hb, he]
theorem wants_not (he : (b' == b) = false) (hj : (all[j]?).bind (·.dst) = some t) (hb : σ t = .bool b') : wants all σ ⟨d, op, ty, pos, af, some (j, b)⟩ = false := by simp only [wants, hj, hb, Option.map_some]; exact he
theorem wants_un (hj : (all[j]?).bind (·.dst) = some t) (hb : σ t = undef) : wants all σ ⟨d, op, ty, pos, af, some (j, b)⟩ = false := by simp only [wants, hj, hb, Option.map_some, undef]
theorem Wk.pass (hw : wants all σ ⟨d, op, ty, pos, af, gd⟩ = false) (hk : Wk C all ex nd u L0 (k + 1) rest (updO σ d undef) E K) (hd : okDst C.N d = true) : Wk C all ex nd u L0 k (⟨d, op, ty, pos, af, gd⟩ :: rest) σ E K := by
  unfold Wk
  rw [hw]
  exact ⟨hd, hk⟩
theorem Wk.gp (he : b' = b) (h : Sd C.P C.w0 C.B ⟨d, op, ty, pos, af, some (j, b)⟩ σ L0 v) (hk : Wk C all ex nd u L0 (k + 1) rest (updO σ d v) E K)
    (hj : (all[j]?).bind (·.dst) = some t := by rfl) (hb : σ t = .bool b' := by rfl) (hd : okDst C.N d = true := by rfl) (hx : ex k = none := by rfl) (hn : nd k = [] := by rfl) :
    Wk C all ex nd u L0 k (⟨d, op, ty, pos, af, some (j, b)⟩ :: rest) σ E K := Wk.go0 (wants_is he hj hb) h hk hd hx hn
theorem Wk.gpn {l : List Nat} (he : b' = b) (hn : nd k = l) (hE : ∀ c ∈ l, c ∈ E) (h : Sd C.P C.w0 C.B ⟨d, op, ty, pos, af, some (j, b)⟩ σ (needs u l L0) v) (hk : Wk C all ex nd u L0 (k + 1) rest (updO σ d v) E K)
    (hj : (all[j]?).bind (·.dst) = some t := by rfl) (hb : σ t = .bool b' := by rfl) (hd : okDst C.N d = true := by rfl) (hx : ex k = none := by rfl) :
    Wk C all ex nd u L0 k (⟨d, op, ty, pos, af, some (j, b)⟩ :: rest) σ E K := Wk.goN (wants_is he hj hb) h hk hd hx hn hE
theorem Wk.gc (hu : Valid ex u) (he : b' = b) (hx : ex k = some (fun v' R => v' = v ∧ R = [])) (h : Sp C.P C.w0 C.B ⟨d, op, ty, pos, af, some (j, b)⟩ σ L0 (Adds (fun v' R => v' = v ∧ R = []) L0)) (hk : u k = (v, []) → Wk C all ex nd u L0 (k + 1) rest (updO σ d v) (k :: E) K)
    (hj : (all[j]?).bind (·.dst) = some t := by rfl) (hb : σ t = .bool b' := by rfl) (hd : okDst C.N d = true := by rfl) (hn : nd k = [] := by rfl) : Wk C all ex nd u L0 k (⟨d, op, ty, pos, af, some (j, b)⟩ :: rest) σ E K :=
  Wk.goX (wants_is he hj hb) hu hx hn (by simp) h (fun _ _ e ⟨h1, h2⟩ => by subst h1; subst h2; exact hk e) hd
theorem Wk.gx {V : Value → List Res → Prop} (hu : Valid ex u) (he : b' = b) (h : Sp C.P C.w0 C.B ⟨d, op, ty, pos, af, some (j, b)⟩ σ L0 (Adds V L0)) (hk : ∀ v T, u k = (v, T) → V v T → Wk C all ex nd u L0 (k + 1) rest (updO σ d v) (k :: E) K)
    (hj : (all[j]?).bind (·.dst) = some t := by rfl) (hb : σ t = .bool b' := by rfl) (hx : ex k = some V := by rfl) (hd : okDst C.N d = true := by rfl) (hn : nd k = [] := by rfl) :
    Wk C all ex nd u L0 k (⟨d, op, ty, pos, af, some (j, b)⟩ :: rest) σ E K := Wk.goX (wants_is he hj hb) hu hx hn (by simp) h hk hd
theorem Wk.gxn {l : List Nat} {V : Value → List Res → Prop} (hu : Valid ex u) (he : b' = b) (hn : nd k = l) (hE : ∀ c ∈ l, c ∈ E) (h : Sp C.P C.w0 C.B ⟨d, op, ty, pos, af, some (j, b)⟩ σ (needs u l L0) (Adds V (needs u l L0))) (hk : ∀ v T, u k = (v, T) → V v T → Wk C all ex nd u L0 (k + 1) rest (updO σ d v) (k :: E) K)
    (hj : (all[j]?).bind (·.dst) = some t := by rfl) (hb : σ t = .bool b' := by rfl) (hx : ex k = some V := by rfl) (hd : okDst C.N d = true := by rfl) :
    Wk C all ex nd u L0 k (⟨d, op, ty, pos, af, some (j, b)⟩ :: rest) σ E K := Wk.goX (wants_is he hj hb) hu hx hn hE h hk hd
theorem Wk.gn {c : Bool} (he : b' = c) (hk : Wk C all ex nd u L0 (k + 1) rest (updO σ d undef) E K)
    (hj : (all[j]?).bind (·.dst) = some t := by rfl) (hb : σ t = .bool b' := by rfl) (hd : okDst C.N d = true := by rfl) (hn : (c == b) = false := by rfl) : Wk C all ex nd u L0 k (⟨d, op, ty, pos, af, some (j, b)⟩ :: rest) σ E K := Wk.pass (wants_not (by rw [he]; exact hn) hj hb) hk hd
theorem Wk.gu (hk : Wk C all ex nd u L0 (k + 1) rest (updO σ d undef) E K)
    (hj : (all[j]?).bind (·.dst) = some t := by rfl) (hb : σ t = undef := by rfl) (hd : okDst C.N d = true := by rfl) : Wk C all ex nd u L0 k (⟨d, op, ty, pos, af, some (j, b)⟩ :: rest) σ E K := Wk.pass (wants_un hj hb) hk hd
end
end
end Go.Proofs.Ytbcnejobnmljlaa
