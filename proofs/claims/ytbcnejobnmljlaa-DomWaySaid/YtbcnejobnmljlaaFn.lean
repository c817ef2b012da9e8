/- Contracts of functions, calls, results; slices that are made, grown, cut, written. Over any program. -/
import Derived.Test.YtbcnejobnmljlaaOps
namespace Go.Proofs.Ytbcnejobnmljlaa
set_option linter.unusedVariables false
open Go Go.RowKit

/-- The contract of a function: called on args in w it returns a value, and owns what R says; nothing that was there has turned. -/
def Ct (P : Program) (f : FuncId) (args : Array Value) (w : World) (R : Value → List Res → Prop) : Prop :=
  CallsIn Fence.wide 0 P f args w fun e w' => ∃ v, e = .returned v ∧ ∃ L, Hp w w.heap.size L w' ∧ R v L
/-- The contract of a function that turns what its caller owns: Lin. -/
def Cm (P : Program) (f : FuncId) (args : Array Value) (w0 : World) (B : Nat) (Lin : List Res) (R : Value → List Res → Prop) : Prop :=
  ∀ M w, Hp w0 B (M ++ Lin) w → CallsIn Fence.wide 0 P f args w fun e w' => ∃ v, e = .returned v ∧ ∃ L, Hp w0 B (M ++ L) w' ∧ R v L
theorem Ct.mono {P : Program} {f : FuncId} {args : Array Value} {w : World} {R R' : Value → List Res → Prop} (h : Ct P f args w R) (hr : ∀ v L, R v L → R' v L) : Ct P f args w R' :=
  CallsIn.mono h fun _ _ ⟨v, he, L, hh, hR⟩ => ⟨v, he, L, hh, hr _ _ hR⟩
theorem Ct.calls {P : Program} {f : FuncId} {args : Array Value} {w : World} {R : Value → List Res → Prop} (h : Ct P f args w R) : Calls P f args w fun e w' => ∃ v, e = .returned v ∧ ∃ L, Hp w w.heap.size L w' ∧ R v L := callsIn_wide.1 h
/-- The environment in which a body begins. -/
def argEnv : List Value → Env
  | [], _ => undef
  | v :: _, 0 => v
  | _ :: l, n + 1 => argEnv l n
theorem argEnv_getD : ∀ (l : List Value) (t : Nat), argEnv l t = l.getD t undef
  | [], _ => by simp [argEnv]
  | _ :: _, 0 => by simp [argEnv]
  | _ :: l, n + 1 => by simp only [argEnv]; rw [argEnv_getD l n]; simp
theorem agree_args (args : Array Value) (k : Nat) : Agree { tmps := args ++ Array.replicate k undef, defers := [] } (argEnv args.toList) := by
  intro t
  rw [argEnv_getD]
  simp only [Array.getD_eq_getD_getElem?, List.getD_eq_getElem?_getD]
  rw [Array.getElem?_append]
  by_cases h : t < args.size
  · rw [if_pos h]
    simp
  · rw [if_neg h, Array.getElem?_replicate, List.getElem?_eq_none (by simpa using h)]
    by_cases h2 : t - args.size < k <;> simp [h2]
/-- What a body hands back where it ends so. -/
def RetV (P : Program) (w0 : World) (B : Nat) (fn : Func) (σ : Env) (L : List Res) (v : Value) : Prop := ∀ M a w, Agree a σ → Hp w0 B (M ++ L) w → (results fn a.tmps).run P w = .ok v w
/-- Of L, L' is kept. -/
def Keep (L L' : List Res) : Prop := ∃ D, L.Perm (L' ++ D)
theorem Keep.nil {L : List Res} : Keep L [] := ⟨L, .refl _⟩
theorem Keep.all {L : List Res} : Keep L L := ⟨[], by simp⟩
theorem Keep.fst {L D : List Res} : Keep (L ++ D) L := ⟨D, .refl _⟩
theorem Keep.snd {L D : List Res} : Keep (D ++ L) L := ⟨D, List.perm_append_comm⟩
theorem Keep.sub : ∀ {L' L : List Res}, L'.Sublist L → Keep L L'
  | _, _, .slnil => ⟨[], .refl _⟩
  | _, _, .cons (l₂ := M) a h => by obtain ⟨D, hD⟩ := Keep.sub h; exact ⟨a :: D, (hD.cons a).trans List.perm_middle.symm⟩
  | _, _, .cons_cons a h => by obtain ⟨D, hD⟩ := Keep.sub h; exact ⟨D, hD.cons a⟩
theorem Keep.hp {w0 w : World} {B : Nat} {M L L' : List Res} (h : Keep L L') (hh : Hp w0 B (M ++ L) w) : Hp w0 B (M ++ L') w := by
  obtain ⟨D, hD⟩ := h
  refine (hh.perm (L' := M ++ L' ++ D) (by rw [List.append_assoc]; exact List.Perm.append_left _ hD)).sub (by simp)
theorem Keep.st {C : Ctx} {a : Act} {w : World} {L L' : List Res} (h : Keep L L') (hs : St C L a w) : St C L' a w := ⟨hs.size, h.hp hs.heap⟩
theorem Cd.keep {C : Ctx} {c : Code} {Q : Exit → Env → List Res → Prop} {σ : Env} {L L' : List Res} (h : Keep L L') (hc : Cd C c Q σ L') : Cd C c Q σ L := fun a w ha hs => hc a w ha (h.st hs)
theorem Ol.keep {C : Ctx} {all : Array Oper} {l : List Oper} {K : Env → List Res → Prop} {σ : Env} {L L' : List Res} (h : Keep L L') (hc : Ol C all l K σ L') : Ol C all l K σ L := fun a w Q ha hs hq => hc a w Q ha (h.st hs) hq
/-- A slice that is nil owns nothing: it is there wherever it is wanted. -/
theorem Hp.nr {w0 w : World} {B : Nat} {M L : List Res} {e s : Nat} (h : Hp w0 B (M ++ L) w) : Hp w0 B (M ++ (row (.slice none 0 0) e s 0 [] :: L)) w :=
  h.add (T := [row (.slice none 0 0) e s 0 []]) (Stp.refl _ _) (by intro r hr; simp at hr; subst hr; exact ⟨by simp, .inl ⟨rfl, rfl⟩⟩) (by intro r hr k hk; simp at hr; subst hr; simp [row, Value.ownBlock] at hk) (by simp)
theorem Cd.nr {C : Ctx} {c : Code} {Q : Exit → Env → List Res → Prop} {σ : Env} {L : List Res} (e s : Nat) (hc : Cd C c Q σ (row (.slice none 0 0) e s 0 [] :: L)) : Cd C c Q σ L := fun a w ha hs => hc a w ha ⟨hs.size, hs.heap.nr⟩
theorem Ol.nr {C : Ctx} {all : Array Oper} {l : List Oper} {K : Env → List Res → Prop} {σ : Env} {L : List Res} (e s : Nat) (hc : Ol C all l K σ (row (.slice none 0 0) e s 0 [] :: L)) : Ol C all l K σ L := fun a w Q ha hs hq => hc a w Q ha ⟨hs.size, hs.heap.nr⟩ hq
/-- A new slice, handed over. -/
def NewL (e s n : Nat) (xs : List Value) : Value → List Res → Prop := fun v L => ∃ A c, v = .slice A n c ∧ L = [row (.slice A n c) e s n xs]
def Out (C : Ctx) (fn : Func) (R : Value → List Res → Prop) : Exit → Env → List Res → Prop
  | .normal, σ, L | .ret, σ, L => ∃ v, RetV C.P C.w0 C.B fn σ L v ∧ ∃ L', Keep L L' ∧ R v L'
  | _, _, _ => False
theorem leave_marks {P : Program} {fn : Func} {w0 : World} {B : Nat} {σ : Env} {v : Value} {M L : List Res} {R : Ending → World → Prop} {a : Act} (ha : Agree a σ) (hv : RetV P w0 B fn σ L v) (hR : ∀ w, Hp w0 B (M ++ L) w → R (.returned v) w) :
    ∀ (ds : List Deferred) (w : World), Hp w0 B (ds.map markRes ++ (M ++ L)) w → LeavesInM Fence.wide 0 P fn a.tmps R ds .returning w
  | [], w, hh => ⟨v, hv M a w ha (by simpa using hh), hR w (by simpa using hh)⟩
  | d :: ds, w, hh => by
    have h0 := hh.has (markRes d) (by simp)
    cases ht : d.target with
    | collected D =>
      have hm : markRes d = blk D (.deferred (some [])) := by simp [markRes, ht]
      have h1 : w.heap[D]? = some (.deferred (some [])) := by rw [hm] at h0; exact h0
      refine ⟨by simp, .inl ⟨D, w.putObj D (.deferred none), ht, run_takeDeferred h1, leave_marks ha hv hR ds _ ?_⟩⟩
      have h2 : Hp w0 B ((([] : List Res)) ++ (markRes d :: (ds.map markRes ++ (M ++ L)))) w := by simpa using hh
      have h3 := Hp.set (i := 0) (r := blk D (.deferred (some []))) (r' := blk D (.deferred none)) h2 (by rw [hm]; rfl) (Stp.putObj w D (.deferred none)) (World.putObj_heap_same (Array.getElem?_eq_some_iff.1 h1).1) (fun _ hk => .inl hk)
      exact h3.sub (by simp)
    | _ => simp [markRes, ht] at h0
/-- A contract out of a body, of a function that turns what its caller owns. -/
theorem Cm.mk {P : Program} {f : FuncId} {fn : Func} {c : Code} {args : Array Value} {w0 : World} {B N : Nat} {Lin : List Res} {R : Value → List Res → Prop} (hf : P.funcs[f]? = some fn) (hb : fn.body = some c) (hN : args.size + (fn.ntmps - args.size) = N)
    (hw : ∀ M, Cd ⟨P, N, none, w0, B, M⟩ c (Out ⟨P, N, none, w0, B, M⟩ fn R) (argEnv args.toList) Lin) : Cm P f args w0 B Lin R := by
  intro M w hh
  refine callsIn_of_wp_marks hf hb trivial ?_ rfl
  have h1 := hw M { tmps := args ++ Array.replicate (fn.ntmps - args.size) undef, defers := [] } w (agree_args args _) ⟨by simpa using hN, by simpa [hid] using hh⟩
  refine Go.wpIn_mono h1 ?_
  rintro e a' w' ⟨σ', L', ha, hs, ho⟩
  have key : ∀ v, RetV P w0 B fn σ' L' v → (∃ L2, Keep L' L2 ∧ R v L2) → LeavesInM Fence.wide 0 P fn a'.tmps (fun e w' => ∃ v, e = .returned v ∧ ∃ L, Hp w0 B (M ++ L) w' ∧ R v L) a'.defers .returning w' := by
    rintro v hv ⟨L2, hk, hR⟩
    exact leave_marks ha hv (fun w hw => ⟨v, rfl, L2, hk.hp hw, hR⟩) a'.defers w' (by have := hs.heap; simpa [hid] using this)
  cases e with
  | normal => obtain ⟨v, hv, hR⟩ := ho; exact key v hv hR
  | ret => obtain ⟨v, hv, hR⟩ := ho; exact key v hv hR
  | _ => exact ho.elim
/-- A contract out of a body. -/
theorem Ct.mk {P : Program} {f : FuncId} {fn : Func} {c : Code} {args : Array Value} {w : World} {N : Nat} {R : Value → List Res → Prop} (hf : P.funcs[f]? = some fn) (hb : fn.body = some c) (hN : args.size + (fn.ntmps - args.size) = N)
    (hw : Cd ⟨P, N, none, w, w.heap.size, []⟩ c (Out ⟨P, N, none, w, w.heap.size, []⟩ fn R) (argEnv args.toList) []) : Ct P f args w R := by
  refine callsIn_of_wp_marks hf hb trivial ?_ rfl
  have h1 := hw { tmps := args ++ Array.replicate (fn.ntmps - args.size) undef, defers := [] } w (agree_args args _) ⟨by simpa using hN, by simpa [hid] using Hp.start w⟩
  refine Go.wpIn_mono h1 ?_
  rintro e a' w' ⟨σ', L', ha, hs, ho⟩
  have key : ∀ v, RetV P w w.heap.size fn σ' L' v → (∃ L2, Keep L' L2 ∧ R v L2) → LeavesInM Fence.wide 0 P fn a'.tmps (fun e w' => ∃ v, e = .returned v ∧ ∃ L, Hp w w.heap.size L w' ∧ R v L) a'.defers .returning w' := by
    rintro v hv ⟨L2, hk, hR⟩
    exact leave_marks (M := []) ha hv (fun w hw => ⟨v, rfl, L2, by simpa using hk.hp hw, hR⟩) a'.defers w' (by have := hs.heap; simpa [hid] using this)
  cases e with
  | normal => obtain ⟨v, hv, hR⟩ := ho; exact key v hv hR
  | ret => obtain ⟨v, hv, hR⟩ := ho; exact key v hv hR
  | _ => exact ho.elim
section
variable {P : Program} {w0 : World} {B : Nat} {fn : Func} {σ : Env} {L : List Res} {u v x y : Value} {t s r q : Nat}
theorem ret1 (hr : fn.results = #[.tmp t]) (hv : σ t = v) : RetV P w0 B fn σ L v := fun _ a w ha _ => by rw [results_tmp hr, ← hv, ha t]
theorem ret0 (hr : fn.results = #[]) : RetV P w0 B fn σ L (.tuple #[]) := fun _ _ _ _ _ => results_none hr _ _ _
theorem ret2 (hr : fn.results = #[.tmp t, .tmp s]) (hv : σ t = v) (hu : σ s = u) : RetV P w0 B fn σ L (.tuple #[v, u]) := fun _ a w ha _ => by rw [results_tmp2 hr, ← hv, ← hu, ha t, ha s]
theorem ret3 (hr : fn.results = #[.tmp t, .tmp s, .tmp r]) (hv : σ t = v) (hu : σ s = u) (hx : σ r = x) : RetV P w0 B fn σ L (.tuple #[v, u, x]) := fun _ a w ha _ => by
  have h1 := ha t; have h2 := ha s; have h3 := ha r
  simp only [results, hr]
  simp [← hv, ← hu, ← hx, ← h1, ← h2, ← h3]
/-- One result, in a block that is read whole. -/
theorem retc {T n i g : Nat} {cs : Array Value} {e : TypeId} {fz : Nat × Nat} (hr : fn.results = #[.cell t T]) (hT : AggT P T n) (hv : σ t = .pointer (some ⟨g, 0, none⟩)) (hi : L[i]? = some (blk g (.cells cs e fz))) (hl : cs.size = n) : RetV P w0 B fn σ L (.agg cs) := fun M a w ha hh => by
  have h1 := ha t
  rw [hv] at h1
  have h2 := run_loadVar_agg (P := P) (p := ⟨g, 0, none⟩) (cs := cs.toList) hT (by simpa using hl) (w := w) (fun j u hu => by
    rw [add_lit_]; exact Rd.blk hi (by simpa using hu) M w hh)
  simp only [results, hr]
  simp only [List.mapM_toArray, List.mapM_cons, List.mapM_nil, Sem.run_bind, Sem.run_pure, Result.andThen_ok, h1, asAddr, h2, bind_pure_comp, Sem.run_map, map_pure]
  simp
theorem retct {T n i g : Nat} {cs : Array Value} {e : TypeId} {fz : Nat × Nat} (hr : fn.results = #[.cell t T, .tmp s]) (hT : AggT P T n) (hv : σ t = .pointer (some ⟨g, 0, none⟩)) (hu : σ s = u) (hi : L[i]? = some (blk g (.cells cs e fz))) (hl : cs.size = n) : RetV P w0 B fn σ L (.tuple #[.agg cs, u]) := fun M a w ha hh => by
  have h1 := ha t; have h3 := ha s
  rw [hv] at h1; rw [hu] at h3
  have h2 := run_loadVar_agg (P := P) (p := ⟨g, 0, none⟩) (cs := cs.toList) hT (by simpa using hl) (w := w) (fun j u hu => by
    rw [add_lit_]; exact Rd.blk hi (by simpa using hu) M w hh)
  simp only [results, hr]
  simp only [List.mapM_toArray, List.mapM_cons, List.mapM_nil, Sem.run_bind, Sem.run_pure, Result.andThen_ok, h1, h3, asAddr, h2, bind_pure_comp, Sem.run_map, map_pure]
  simp
/-- One result, a variable in a block. -/
theorem retv {T i g k : Nat} {cs : Array Value} {e : TypeId} {fz : Nat × Nat} (hr : fn.results = #[.cell t T]) (hT : OneT P T) (hv : σ t = .pointer (some ⟨g, k, none⟩)) (hi : L[i]? = some (blk g (.cells cs e fz))) (hk : cs[k]? = some v) : RetV P w0 B fn σ L v := fun M a w ha hh => by
  have h1 := ha t
  rw [hv] at h1
  have h2 := Rd.blk hi hk M w hh
  simp only [results, hr]
  simp only [List.mapM_toArray, List.mapM_cons, List.mapM_nil, Sem.run_bind, Sem.run_pure, Result.andThen_ok, h1, asAddr, bind_pure_comp, Sem.run_map, map_pure]
  simp [loadVar, run_isAgg_one hT, h2]
end

/-! ### Calls -/
section
variable {P : Program} {w0 : World} {B : Nat} {σ : Env} {L : List Res} {d : Option Nat} {ty T : TypeId} {pos : String} {af : Array Edge} {gd : Option (Nat × Bool)} {x y z : Operand} {v : Value}
def Ent (P : Program) (f : FuncId) : Prop := ∀ args w, (callFunc f args).run P w = .ok (.enter f args) w
theorem Ent.mk {f : FuncId} {fn : Func} {c : Code} (hf : P.funcs[f]? = some fn) (hb : fn.body = some c) (hn : (fn.name == "runtime.NumGoroutine") = false) : Ent P f := fun args w => by
  have h1 : fn.name ≠ "runtime.NumGoroutine" := by simpa using hn
  simp [callFunc, hf, hb, h1]
/-- What a call adds. -/
def Adds (R : Value → List Res → Prop) (L : List Res) : Value → List Res → Prop := fun v L' => ∃ T, L' = T ++ L ∧ R v T
theorem sp_call {f : FuncId} {xs : List Operand} {vs : List Value} {ts : Array TypeId} {R : Value → List Res → Prop} (he : Ent P f) (hc : ∀ M w, Hp w0 B (M ++ L) w → Ct P f vs.toArray w R) (ha : xs.map (ev σ) = vs := by exact rfl) :
    Sp P w0 B ⟨d, .call { callee := .value (.func f), args := xs.toArray, argTypes := ts }, ty, pos, af, gd⟩ σ L (Adds R L) := fun M w hh => by
  refine .inr (.inr (.inl ⟨f, vs.toArray, w, ?_, ?_⟩))
  · simp [execOp, resolve, Deferred.ofValue, ev, invoke, ha, he vs.toArray w]
  · refine CallsIn.mono (hc M w hh) ?_
    rintro e w' ⟨v, he, T, hT, hR⟩
    exact ⟨v, he, T ++ L, hh.call hT, T, rfl, hR⟩
/-- A call of a function value. -/
theorem sp_callv {f : FuncId} {fst cap : Array Value} {xs : List Operand} {vs : List Value} {ts : Array TypeId} {R : Value → List Res → Prop} (he : Ent P f) (hc : ∀ M w, Hp w0 B (M ++ L) w → Ct P f (fst ++ vs.toArray ++ cap) w R) (hx : ev σ x = .func (.func f) fst cap := by exact rfl) (ha : xs.map (ev σ) = vs := by exact rfl) :
    Sp P w0 B ⟨d, .call { callee := .value x, args := xs.toArray, argTypes := ts }, ty, pos, af, gd⟩ σ L (Adds R L) := fun M w hh => by
  refine .inr (.inr (.inl ⟨f, fst ++ vs.toArray ++ cap, w, ?_, ?_⟩))
  · simp [execOp, resolve, Deferred.ofValue, hx, invoke, ha]
    exact he _ _
  · refine CallsIn.mono (hc M w hh) ?_
    rintro e w' ⟨v, he, T, hT, hR⟩
    exact ⟨v, he, T ++ L, hh.call hT, T, rfl, hR⟩
/-- A call that turns what is owned: Lin gives way to what R says. -/
theorem sp_callm {f : FuncId} {xs : List Operand} {vs : List Value} {ts : Array TypeId} {Lin L2 : List Res} {R : Value → List Res → Prop} (he : Ent P f) (hp : L.Perm (Lin ++ L2)) (hc : Cm P f vs.toArray w0 B Lin R) (ha : xs.map (ev σ) = vs := by exact rfl) :
    Sp P w0 B ⟨d, .call { callee := .value (.func f), args := xs.toArray, argTypes := ts }, ty, pos, af, gd⟩ σ L (Adds R L2) := fun M w hh => by
  refine .inr (.inr (.inl ⟨f, vs.toArray, w, ?_, ?_⟩))
  · simp [execOp, resolve, Deferred.ofValue, ev, invoke, ha, he vs.toArray w]
  · have h1 : Hp w0 B ((M ++ L2) ++ Lin) w := hh.perm (by
      rw [List.append_assoc]
      exact List.Perm.append_left _ (hp.trans List.perm_append_comm))
    refine CallsIn.mono (hc (M ++ L2) w h1) ?_
    rintro e w' ⟨v, he, T, hT, hR⟩
    exact ⟨v, he, T ++ L2, hT.perm (by rw [List.append_assoc]; exact List.Perm.append_left _ List.perm_append_comm), T, rfl, hR⟩
theorem sp_callvm {f : FuncId} {fst cap : Array Value} {xs : List Operand} {vs : List Value} {ts : Array TypeId} {Lin L2 : List Res} {R : Value → List Res → Prop} (he : Ent P f) (hp : L.Perm (Lin ++ L2)) (hc : Cm P f (fst ++ vs.toArray ++ cap) w0 B Lin R) (hx : ev σ x = .func (.func f) fst cap := by exact rfl) (ha : xs.map (ev σ) = vs := by exact rfl) :
    Sp P w0 B ⟨d, .call { callee := .value x, args := xs.toArray, argTypes := ts }, ty, pos, af, gd⟩ σ L (Adds R L2) := fun M w hh => by
  refine .inr (.inr (.inl ⟨f, fst ++ vs.toArray ++ cap, w, ?_, ?_⟩))
  · simp [execOp, resolve, Deferred.ofValue, hx, invoke, ha]
    exact he _ _
  · have h1 : Hp w0 B ((M ++ L2) ++ Lin) w := hh.perm (by
      rw [List.append_assoc]
      exact List.Perm.append_left _ (hp.trans List.perm_append_comm))
    refine CallsIn.mono (hc (M ++ L2) w h1) ?_
    rintro e w' ⟨v, he, T, hT, hR⟩
    exact ⟨v, he, T ++ L2, hT.perm (by rw [List.append_assoc]; exact List.Perm.append_left _ List.perm_append_comm), T, rfl, hR⟩
theorem mkf {fn : Fn} {fs cs : List Operand} {v1 v2 : List Value} (h1 : fs.map (ev σ) = v1 := by exact rfl) (h2 : cs.map (ev σ) = v2 := by exact rfl) : Sd P w0 B ⟨d, .makeFunc fn fs.toArray cs.toArray, ty, pos, af, gd⟩ σ L ((.func fn v1.toArray v2.toArray)) :=
  sp_val fun _ => by simp [execOp, Instr.makeFunc, h1, h2]

/-! ### Slices -/
/-- A new slice. -/
def NewS (e s n c : Nat) (xs : List Value) (L : List Res) : Value → List Res → Prop := fun v L' => ∃ g, v = .slice (some ⟨g, 0, none⟩) n c ∧ L' = row v e s n xs :: L
theorem own_new (w : World) (cur : Array Value) (e s n c : Nat) (hn : n ≤ c) (hc : c ≤ maxLen) (hs : cur.size = c * s) : (w.alloc (.cells cur e)).ownsRow 0 e s (.slice (some ⟨w.heap.size, 0, none⟩) n c) n (cur.toList.take (n * s)) :=
  ⟨by simp only [List.length_take, Array.length_toList, hs]; exact Nat.min_eq_left (Nat.mul_le_mul_right _ hn), .inr ⟨w.heap.size, c, cur, rfl, Nat.zero_le _, heap_alloc_new w _, hn, hc, hs, rfl⟩⟩
theorem Hp.newRow {M : List Res} {w : World} (h : Hp w0 B (M ++ L) w) (cur : Array Value) (e s n c : Nat) (hn : n ≤ c) (hc : c ≤ maxLen) (hs : cur.size = c * s) : Hp w0 B (M ++ (row (.slice (some ⟨w.heap.size, 0, none⟩) n c) e s n (cur.toList.take (n * s)) :: L)) (w.alloc (.cells cur e)) :=
  h.add (T := [row (.slice (some ⟨w.heap.size, 0, none⟩) n c) e s n (cur.toList.take (n * s))]) (Stp.alloc w _) (by intro r hr; simp at hr; subst hr; exact own_new w cur e s n c hn hc hs)
    (by intro r hr k hk; simp at hr; subst hr; have : w.heap.size = k := (by simpa [row, Value.ownBlock] using hk); exact ⟨by omega, by rw [World.size_alloc]; omega⟩) (by simp)
theorem mks {e s b n c : Nat} {k1 k2 : IntKind} {zv : Value} (hT : SlT P T e s b) (hz : ZrT P e zv) (hx : ev σ x = .int k1 (n : Int) := by exact rfl) (hy : ev σ y = .int k2 (c : Int) := by exact rfl) (hnc : n ≤ c := by omega) (hb : b * c ≤ 281474976710656 := by omega) (hc : c ≤ maxLen := by (unfold maxLen; omega)) :
    Sp P w0 B ⟨d, .makeSlice T x y, ty, pos, af, gd⟩ σ L (NewS e s n c ((madeCells zv.cells (c * s)).toList.take (n * s)) L) := fun M w hh => by
  obtain ⟨i, hi, he⟩ := info_of hT.2
  simp only [Prod.mk.injEq] at he
  obtain ⟨i2, hi2, hz2⟩ := info_of hz
  rw [hi] at hi2
  cases hi2
  have hb' : (i.bytes : Int) * (c : Int) ≤ 281474976710656 := by
    have h : ((b * c : Nat) : Int) ≤ 281474976710656 := by omega
    rw [Int.natCast_mul] at h
    rw [he.2]; exact h
  have hc' : c ≤ 9223372036854775807 := by unfold maxLen at hc; omega
  have hr := run_make (P := P) w T e i zv hT.1 hi hz2 k1 k2 n c (by omega) (by omega) hb' (by omega)
  simp only [Int.toNat_natCast, he.1] at hr
  refine .inl ⟨.slice (some ⟨w.heap.size, 0, none⟩) n c, w.alloc (.cells (madeCells zv.cells (c * s)) e), ?_, _, hh.newRow (madeCells zv.cells (c * s)) e s n c hnc hc (by simp [madeCells]), w.heap.size, rfl, rfl⟩
  simp [execOp, hx, hy, hr]
/-- A literal of a slice's elements. -/
theorem bsl {e s b n : Nat} {parts : List (Nat × Operand)} {pv : List (Nat × Value)} {zv : Value} {cur : Array Value} (hT : SlT P T e s b) (hz : ZrT P e zv) (hf : Instr.fill (fun i => some (i * s, s)) (if n * s = 0 then #[] else (Array.range (n * s)).map (zv.cells[· % zv.cells.size]!)) pv = some cur)
    (hn : n * s ≤ 16777216) (hcs : cur.size = n * s) (hm : n ≤ maxLen) (hp : parts.map (fun p => (p.1, ev σ p.2)) = pv := by exact rfl) : Sp P w0 B ⟨d, .buildSlice T n parts.toArray, ty, pos, af, gd⟩ σ L (NewS e s n n cur.toList L) := fun M w hh => by
  obtain ⟨i, hi, he⟩ := info_of hT.2
  simp only [Prod.mk.injEq] at he
  have hsz : (P.info? e).map (·.size) = some s := by simp [hi, he.1]
  refine .inl ⟨.slice (some ⟨w.heap.size, 0, none⟩) n n, w.alloc (.cells cur e), ?_, row (.slice (some ⟨w.heap.size, 0, none⟩) n n) e s n cur.toList :: L, ?_, w.heap.size, rfl, rfl⟩
  · have hmap : (parts.toArray.map fun (i, x) => (i, ev σ x)).toList = pv := by simpa using hp
    simp only [execOp, Instr.buildSlice]
    rw [hmap]
    have hle : ¬ (n * s > 2 ^ 24) := by omega
    by_cases h0 : n * s = 0
    · rw [if_pos h0] at hf
      simp only [Sem.run_bind, run_underlying hT.1, run_size hsz, Result.andThen_ok, Sem.run_ite, Sem.run_pure, if_neg hle, if_pos h0]
      have hf' : Instr.fill (fun i => some (i * s, s)) (Array.map (fun x => (#[] : Array Value)[x % (#[] : Array Value).size]!) (Array.range (n * s))) pv = some cur := by
        have hr : Array.range 0 = #[] := rfl
        rw [h0, hr]; simpa using hf
      rw [hf']
      simp [newRow]
    · rw [if_neg h0] at hf
      simp only [Sem.run_bind, run_underlying hT.1, run_size hsz, Result.andThen_ok, Sem.run_ite, Sem.run_pure, if_neg hle, if_neg h0, run_zero hz]
      rw [hf]
      simp [newRow]
  · have := hh.newRow cur e s n n (Nat.le_refl _) hm hcs
    rwa [List.take_of_length_le (by simp [hcs])] at this
/-- Where the cells that are appended lie. -/
def Src (w0 : World) (B : Nat) (L : List Res) (A : Option Addr) (m s : Nat) (ys : List Value) : Prop :=
  ys.length = m * s ∧ ∀ M w, Hp w0 B (M ++ L) w → (A = none ∧ m = 0) ∨ ∃ a, A = some a ∧ ∀ j u, ys[j]? = some u → w.cell? (a.add j) = some u
theorem Src.slc {s m : Nat} {A : Option Addr} {ys : List Value} (h : Reads w0 B s A m ys) : Src w0 B L A m s ys := ⟨h.1, fun M w hh => by
  rcases A with _ | a
  · refine .inl ⟨rfl, ?_⟩
    rcases Nat.eq_zero_or_pos m with h0 | h0
    · exact h0
    · obtain ⟨_, e, _⟩ := h.2 h0; cases e
  · refine .inr ⟨a, rfl, fun j u hu => ?_⟩
    have := Rd.slc (L := L) h hu M w hh
    simpa [ap] using this⟩
theorem Src.row {i s m c : Nat} {A : Option Addr} {e : TypeId} {ys : List Value} (hi : L[i]? = some (row (.slice A m c) e s m ys)) (hl : ys.length = m * s) : Src w0 B L A m s ys := ⟨hl, fun M w hh => by
  have hr : w.ownsRow 0 e s (.slice A m c) m ys := hh.at_ hi
  rcases A with _ | a
  · rcases hr.2 with ⟨_, h0⟩ | ⟨g, cap, cur, hv, _⟩
    · exact .inl ⟨rfl, h0⟩
    · cases hv
  · refine .inr ⟨a, rfl, fun j u hu => ?_⟩
    have := Rd.row hi hu M w hh
    simpa [ap] using this⟩
def Grow (i e s n : Nat) (xs : List Value) (L : List Res) : Value → List Res → Prop := fun v L' => ∃ A c, v = .slice A n c ∧ L' = L.set i (row (.slice A n c) e s n xs)
theorem own_nil_append {t ty' e : TypeId} {i : TypeInfo} {w : World} {n c2 s : Nat} {xs : List Value} {sv : Value} (ht : P.underlying t = some (.slice e)) (hi : P.info? e = some i) (hown : w.ownsRow 0 e s sv n xs) : (Builtin.append_ #[t, t] ty' #[sv, .slice none 0 c2]).run P w = .ok sv w := by
  rcases hown.2 with ⟨rfl, rfl⟩ | ⟨g, cap, cur, rfl, _, _, hnc, _⟩
  · simp [Builtin.append_, run_underlying ht, sizeOf, typeInfo, hi, Builtin.lenOf, Builtin.firstCells]
  · simp [Builtin.append_, run_underlying ht, sizeOf, typeInfo, hi, Builtin.lenOf, Builtin.firstCells, hnc, storeCells]
/-- append onto a row of one's own, from wherever. -/
theorem apn {i e s b n c m c2 : Nat} {A A2 : Option Addr} {xs ys : List Value} {zv : Value} (hT : SlT P T e s b) (hz : ZrT P e zv) (hzs : zv.cells.size = s) (hs0 : 0 < s) (hi : L[i]? = some (row (.slice A n c) e s n xs)) (hsrc : Src w0 B L A2 m s ys)
    (h1 : ∀ u ∈ ys, u.oneCell' = true) (hml : n + m ≤ maxLen) (hby : (n + m) * b ≤ 140737488355328) (hx : ev σ x = .slice A n c := by exact rfl) (hy : ev σ y = .slice A2 m c2 := by exact rfl) :
    Sp P w0 B ⟨d, .call { callee := .builtin .append, args := #[x, y], argTypes := #[T, T] }, ty, pos, af, gd⟩ σ L (Grow i e s (n + m) (xs ++ ys) L) := fun M w hh => by
  obtain ⟨inf, hi1, he⟩ := info_of hT.2
  simp only [Prod.mk.injEq] at he
  obtain ⟨i2, hi2, hz2⟩ := info_of hz
  rw [hi1] at hi2
  cases hi2
  have hown : w.ownsRow 0 e s (.slice A n c) n xs := hh.at_ hi
  have hex : ∃ v' w', (Builtin.append_ #[T, T] ty #[.slice A n c, .slice A2 m c2]).run P w = .ok v' w' ∧ w'.ownsRow 0 e s v' (n + m) (xs ++ ys) ∧ w.grownBy w' (Value.ownBlock (.slice A n c)) ∧ (∀ k, v'.ownBlock = some k → (Value.ownBlock (.slice A n c)) = some k ∨ (w.heap.size ≤ k ∧ k < w'.heap.size)) := by
    rcases hsrc.2 M w hh with ⟨rfl, rfl⟩ | ⟨a, rfl, hc⟩
    · have hy0 : ys = [] := List.eq_nil_of_length_eq_zero (by simpa using hsrc.1)
      subst hy0
      exact ⟨_, w, own_nil_append hT.1 hi1 hown, by simpa using hown, World.grownBy.refl w _, fun k hk => .inl hk⟩
    · obtain ⟨v', w', hr, h2, h3, h4, h5⟩ := run_append_own_at (P := P) w 0 T ty e inf zv s b hT.1 hi1 hz2 he.1 he.2 hzs hs0 _ n xs hown a m c2 ys hsrc.1 hc h1 hml hby (Nat.zero_le _)
      refine ⟨v', w', hr, h2, h3, fun k hk => ?_⟩
      rcases h5 with h5 | h5
      · exact .inl (by rw [← h5]; exact hk)
      · rw [h5] at hk
        have hk' : w.heap.size = k := by simpa using hk
        exact .inr ⟨by omega, (h2.lt k (by rw [h5, hk'])).2⟩
  obtain ⟨v', w', hr, h2, h3, h4⟩ := hex
  have hshape : ∃ A' c', v' = .slice A' (n + m) c' := by
    rcases h2.2 with ⟨rfl, h0⟩ | ⟨g, cap, cur, rfl, _⟩
    · exact ⟨none, 0, by rw [h0]⟩
    · exact ⟨_, _, rfl⟩
  obtain ⟨A', c', rfl⟩ := hshape
  refine .inl ⟨_, w', ?_, _, hh.set (r' := row (.slice A' (n + m) c') e s (n + m) (xs ++ ys)) hi ?_ h2 h4, A', c', rfl, rfl⟩
  · simp [execOp, hx, hy, resolve, invoke, builtin, hr]
  · exact (Stp.of_grown h3).mono (fun k _ hk => hk)
/-- append within the capacity: the value stays where it was. -/
theorem apf {i e s b n c m c2 g : Nat} {A2 : Option Addr} {xs ys : List Value} (hT : SlT P T e s b) (hi : L[i]? = some (row (.slice (some ⟨g, 0, none⟩) n c) e s n xs)) (hsrc : Src w0 B L A2 m s ys)
    (h1 : ∀ u ∈ ys, u.oneCell' = true) (hfit : n + m ≤ c) (hx : ev σ x = .slice (some ⟨g, 0, none⟩) n c := by exact rfl) (hy : ev σ y = .slice A2 m c2 := by exact rfl) :
    Sp P w0 B ⟨d, .call { callee := .builtin .append, args := #[x, y], argTypes := #[T, T] }, ty, pos, af, gd⟩ σ L (det (.slice (some ⟨g, 0, none⟩) (n + m) c) (L.set i (row (.slice (some ⟨g, 0, none⟩) (n + m) c) e s (n + m) (xs ++ ys)))) := fun M w hh => by
  obtain ⟨inf, hi1, he⟩ := info_of hT.2
  simp only [Prod.mk.injEq] at he
  have hown : w.ownsRow 0 e s (.slice (some ⟨g, 0, none⟩) n c) n xs := hh.at_ hi
  rcases hsrc.2 M w hh with ⟨rfl, rfl⟩ | ⟨a, rfl, hc⟩
  · have hy0 : ys = [] := List.eq_nil_of_length_eq_zero (by simpa using hsrc.1)
    subst hy0
    have hr := own_nil_append (P := P) (ty' := ty) (c2 := c2) hT.1 hi1 hown
    refine .inl ⟨_, w, ?_, _, hh.set (r' := row (.slice (some ⟨g, 0, none⟩) (n + 0) c) e s (n + 0) (xs ++ [])) hi (Stp.refl _ _) (by simpa [row] using hown) (fun k hk => .inl (by simpa [row] using hk)), rfl, rfl⟩
    simp [execOp, hx, hy, resolve, invoke, builtin, hr]
  · obtain ⟨w', hr, h2, h3⟩ := run_append_fits (P := P) w 0 T ty e inf s hT.1 hi1 he.1 g n c xs hown a m c2 ys hsrc.1 hc h1 hfit
    refine .inl ⟨_, w', ?_, _, hh.set (r' := row (.slice (some ⟨g, 0, none⟩) (n + m) c) e s (n + m) (xs ++ ys)) hi ((Stp.of_grown h3).mono fun k _ hk => hk) h2 (fun k hk => .inl hk), rfl, rfl⟩
    simp [execOp, hx, hy, resolve, invoke, builtin, hr]
/-- One cell of a row of one's own is written. -/
theorem own_set {w : World} {e s n c k : Nat} {A : Option Addr} {xs : List Value} (h : w.ownsRow 0 e s (.slice A n c) n xs) (hk : k < xs.length) : (w.setCell (ap A k) v).ownsRow 0 e s (.slice A n c) n (xs.set k v) := by
  refine ⟨by simpa using h.1, ?_⟩
  rcases h.2 with ⟨_, h0⟩ | ⟨g, cap, cur, hv, _, hg, hnc, hm, hs, ht⟩
  · have := h.1; rw [h0, Nat.zero_mul] at this; omega
  · injection hv with hA _ hcc
    subst hA
    refine .inr ⟨g, cap, cur.setIfInBounds k v, by rw [hcc], Nat.zero_le _, ?_, hnc, hm, by simpa using hs, ?_⟩
    · rw [ap_own]; exact setCell_blk hg
    · rw [Array.toList_setIfInBounds, List.take_set, ht]
theorem ap_frozen {w : World} {e s n c k : Nat} {A : Option Addr} {xs : List Value} (h : w.ownsRow 0 e s (.slice A n c) n xs) (hk : k < xs.length) : w.frozen? (ap A k) = false := by
  rcases h.2 with ⟨_, h0⟩ | ⟨g, cap, cur, hv, _, hg, _⟩
  · have := h.1; rw [h0, Nat.zero_mul] at this; omega
  · injection hv with hA _ hcc
    subst hA
    rw [ap_own]
    simp [World.frozen?, hg]
theorem str {i e s n c k : Nat} {A : Option Addr} {xs : List Value} (hT : (P.info? T).map (·.size) = some 1) (h1 : v.cells = #[v]) (ho : v.oneCell' = true) (hi : L[i]? = some (row (.slice A n c) e s n xs)) (hk : k < xs.length) (hy : ev σ y = v) (hx : ev σ x = .pointer (some (ap A k)) := by exact rfl) :
    Sp P w0 B ⟨d, .store T x y, ty, pos, af, gd⟩ σ L (det undef (L.set i (row (.slice A n c) e s n (xs.set k v)))) := fun M w hh => by
  have hown : w.ownsRow 0 e s (.slice A n c) n xs := hh.at_ hi
  have hc : w.cell? (ap A k) = some xs[k] := Rd.row hi (List.getElem?_eq_getElem hk) M w hh
  have hf := ap_frozen hown hk
  have hst : Stp (row (.slice A n c) e s n xs).S w (w.setCell (ap A k) v) := by
    have hn : 0 < n := by
      rcases Nat.eq_zero_or_pos n with h0 | h0
      · have := hown.1; rw [h0, Nat.zero_mul] at this; omega
      · exact h0
    obtain ⟨g, rfl⟩ := own_some hown hn
    refine (Stp.setCell w _ v).mono fun b _ hb => ?_
    rw [ap_own] at hb
    simp [row, Value.ownBlock, hb]
  refine .inr (.inl ⟨w.setCell (ap A k) v, ?_, _, hh.set (r' := row (.slice A n c) e s n (xs.set k v)) hi hst (own_set hown hk) (fun b hb => .inl hb), rfl, rfl⟩)
  have h0 : (ap A k).add 0 = ap A k := by simp [Addr.add]
  simp [execOp, hx, hy, Instr.storeAt, Instr.sureAddr, storeVar, h1, run_size hT, storeCells, run_store P w _ v _ ho, h0, hc, hf]
/-- x[:h]. -/
theorem slh {A : Option Addr} {e s b n c h : Nat} {k : IntKind} (hT : SlT P T e s b) (hh : h ≤ c) (hx : ev σ x = .slice A n c := by exact rfl) (hy : ev σ y = .int k (h : Int) := by exact rfl) :
    Sd P w0 B ⟨d, .slice T x none (some y) none, ty, pos, af, gd⟩ σ L ((.slice A h c)) := sp_val fun w => by
  obtain ⟨inf, hi1, he⟩ := info_of hT.2
  simp only [Prod.mk.injEq] at he
  have hsz : (P.info? e).map (·.size) = some s := by simp [hi1, he.1]
  have ha : (A.map fun x => x.add 0) = A := by cases A <;> simp [Addr.add]
  simp [execOp, hx, hy, Instr.sliceAt, run_underlying hT.1, Instr.slice, Instr.sliceBounds, Instr.sliceBound, asIntOf, run_size hsz, ha, Nat.not_lt.2 hh]
/-- x[l:]. -/
theorem sll {A : Option Addr} {e s b n c l : Nat} {k : IntKind} (hT : SlT P T e s b) (hl : l ≤ n) (hx : ev σ x = .slice A n c := by exact rfl) (hy : ev σ y = .int k (l : Int) := by exact rfl) :
    Sd P w0 B ⟨d, .slice T x (some y) none none, ty, pos, af, gd⟩ σ L ((.slice (if c = l then A else A.map (·.add (l * s))) (n - l) (c - l))) := sp_val fun w => by
  obtain ⟨inf, hi1, he⟩ := info_of hT.2
  simp only [Prod.mk.injEq] at he
  have hsz : (P.info? e).map (·.size) = some s := by simp [hi1, he.1]
  simp [execOp, hx, hy, Instr.sliceAt, run_underlying hT.1, Instr.slice, Instr.sliceBounds, Instr.sliceBound, asIntOf, run_size hsz, Nat.not_lt.2 hl]
end
theorem Reads.cut {w : World} {B size n k c : Nat} {A : Option Addr} {xs : List Value} (h : Reads w B size A n xs) (hk : k ≤ n) (hc : n ≤ c) : Reads w B size (if c = k then A else A.map (·.add (k * size))) (n - k) (xs.drop (k * size)) := by
  refine ⟨by rw [List.length_drop, h.1, Nat.sub_mul], fun hn => ?_⟩
  obtain ⟨ad, rfl, hb, hcell⟩ := h.2 (by omega)
  rw [if_neg (by omega)]
  refine ⟨ad.add (k * size), rfl, by rw [add_block_]; exact hb, fun j u hu => ?_⟩
  rw [add_add_]
  exact hcell _ u (by rw [← hu, List.getElem?_drop])
theorem Reads.pre {w : World} {B size n k : Nat} {A : Option Addr} {xs : List Value} (h : Reads w B size A n xs) (hk : k ≤ n) : Reads w B size A k (xs.take (k * size)) := by
  refine ⟨by rw [List.length_take, h.1]; exact Nat.min_eq_left (Nat.mul_le_mul_right _ hk), fun hn => ?_⟩
  obtain ⟨ad, rfl, hb, hcell⟩ := h.2 (by omega)
  refine ⟨ad, rfl, hb, fun j u hu => hcell j u ?_⟩
  rw [List.getElem?_take] at hu
  split at hu
  · exact hu
  · cases hu
theorem Reads.below {w w' : World} {B size n : Nat} {A : Option Addr} {xs : List Value} (h : Reads w B size A n xs) (hb : Below B w w') : Reads w' B size A n xs :=
  ⟨h.1, fun hn => by
    obtain ⟨ad, e, hB, hc⟩ := h.2 hn
    exact ⟨ad, e, hB, fun j u hu => (hb.cell (p := ad.add j) (by rw [add_block_]; exact hB)).trans (hc j u hu)⟩⟩
theorem Reads.more {w : World} {B B' size n : Nat} {A : Option Addr} {xs : List Value} (h : Reads w B size A n xs) (hB : B ≤ B') : Reads w B' size A n xs :=
  ⟨h.1, fun hn => by
    obtain ⟨ad, e, hb, hc⟩ := h.2 hn
    exact ⟨ad, e, by omega, hc⟩⟩
/-- What was read at the beginning reads so now, for whoever is called. -/
theorem Reads.now {w0 w : World} {B size n : Nat} {A : Option Addr} {xs : List Value} {L : List Res} (h : Reads w0 B size A n xs) (hh : Hp w0 B L w) : Reads w w.heap.size size A n xs := (h.below hh.below).more hh.le
/-- A row of one's own, read by whoever is called. -/
theorem Reads.row {w0 w : World} {B i size n c : Nat} {A : Option Addr} {e : TypeId} {xs : List Value} {M L : List Res} (hh : Hp w0 B (M ++ L) w) (hi : L[i]? = some (row (.slice A n c) e size n xs)) : Reads w w.heap.size size A n xs := by
  have hr : w.ownsRow 0 e size (.slice A n c) n xs := hh.at_ hi
  refine ⟨hr.1, fun hn => ?_⟩
  obtain ⟨g, rfl⟩ := own_some hr hn
  exact ⟨_, rfl, (hr.lt g rfl).2, hr.cells (g := g) rfl⟩
end Go.Proofs.Ytbcnejobnmljlaa
